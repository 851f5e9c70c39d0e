/- RingSays: ring.Halves. -/
import Derived.Test.YtdeockoaalpcjaaG4
namespace Go.Proofs.Ytdeockoaalpcjaa
set_option linter.unusedSimpArgs false
set_option linter.unusedVariables false
open Go.RowKit
attribute [local irreducible] AWP ACalls Wk GcTo
attribute [local simp] tab3 ti3 tab24 ti24 tab22 ti22
open Rg
namespace Rg
def nI (l : List Nat) : List Int := l.map fun (x : Nat) => (x : Int)
@[simp] theorem nI_nil : nI [] = [] := rfl
@[simp] theorem nI_len (l : List Nat) : (nI l).length = l.length := by simp [nI]
theorem nI_at {l : List Nat} {j x : Nat} (h : l[j]? = some x) : (nI l)[j]? = some (x : Int) := by simp [nI, h]
theorem nI_app (l m : List Nat) : nI (l ++ m) = nI l ++ nI m := by simp [nI]
theorem nI_one (x : Nat) : nI [x] = [(x : Int)] := rfl
theorem costs_snoc (l : List Int) (far : Nat) (a : List Nat) (i : Nat) : costs l far (a ++ [i]) = costs l far a + cost l far i := by rw [costs_app]; simp [costs]
end Rg
set_option maxRecDepth 100000 in
set_option maxHeartbeats 1000000 in
theorem ringHalves {H : List Blk} {a : Sc} {l : List Int} {Q : AV → List Blk → Prop} (ha : ISl H a l) (q0 : ¬err l = 0 → Q (.tup [.sc (.int .i64 0), .sc (.int .i64 0), .sc (.int .i64 (err l))]) H)
    (q1 : err l = 0 → Q (.tup [.sc (.int .i64 ((halves l).1 : Nat)), .sc (.int .i64 ((halves l).2 : Nat)), .sc (.int .i64 0)]) H) :
    ACalls Try.prog 31 [.sc a] H Q := by
  refine acalls_of tabOk Try.func31 (by kernel_rfl) rfl (by kernel_rfl) ?_
  (repeat' (first | refine awp_seq ?_ | (refine awp_region tabOk ?_; simp) | (refine awp_if ?_; simp) | refine awp_block ?_ | refine And.intro ?_ ?_ | intro _ | (refine awp_skip ?_; simp) | (refine awp_ret ?_; simp) | (refine awp_exit ?_; simp)))
  refine ringCheck ha ?_
  by_cases he : err l = 0
  · have q := q1 he
    have hR := right_of he
    obtain ⟨n, hn⟩ : ∃ n, l.length = n := ⟨_, rfl⟩
    have hn1 : 1 ≤ n := hn ▸ hR.n1
    have hn2 : n ≤ 30 := hn ▸ hR.n2
    have la := ha.len
    have hra := ha.ren
    rw [hn] at la
    ((try simp [he, -lenC, la]); (repeat' (first | refine awp_seq ?_ | (refine awp_region tabOk ?_; simp [he, -lenC, la]) | (refine awp_if ?_; simp [he, -lenC, la]) | refine awp_block ?_ | refine And.intro ?_ ?_ | intro _ | (refine awp_skip ?_; simp [he, -lenC, la]) | (refine awp_ret ?_; simp [he, -lenC, la]) | (refine awp_exit ?_; simp [he, -lenC, la]))))
    refine awp_loop_at (α := {i : Nat // i ≤ n}) (fun i => [(0, .c (.sc a)), (6, .c (.sc (.int .i64 n))), (7, .c (.sc (.int .i64 0))), (8, .c (.sc (intV H.length (nI (List.range i.1))))), (25, .c (.sc a)), (26, .c (.sc (.int .i64 n))), (27, .c (.sc (.int .i64 i.1)))]) (fun i => H ++ [intB (nI (List.range i.1))]) (fun i => n - i.1) ⟨0, by omega⟩ (wk_gcl0 [9] (gcOk_of (by decide) (by simp)) (by simp [hra])) ?_
    rintro ⟨i, hi⟩
    by_cases hlt : i < n
    · have wr := wrapS i (by omega)
      have hr : nI (List.range (i + 1)) = nI (List.range i) ++ [(i : Int)] := by rw [List.range_succ, nI_app, nI_one]
      have hrl : (nI (List.range i)).length = i := by simp
      (repeat' (first | refine awp_seq ?_ | (refine awp_region tabOk ?_; simp [hlt]) | (refine awp_if ?_; simp [hlt]) | refine awp_block ?_ | refine And.intro ?_ ?_ | intro _ | (refine awp_skip ?_; simp [hlt]) | (refine awp_ret ?_; simp [hlt]) | (refine awp_exit ?_; simp [hlt])))
      cases hm : nI (List.range i) with
      | nil =>
        have h0 : i = 0 := by rw [hm] at hrl; simpa using hrl.symm
        simp [hm, intV, intB, maxLen]
        (repeat' (first | refine awp_seq ?_ | (refine awp_region tabOk ?_; simp [wr]) | (refine awp_if ?_; simp [wr]) | refine awp_block ?_ | refine And.intro ?_ ?_ | intro _ | (refine awp_skip ?_; simp [wr]) | (refine awp_ret ?_; simp [wr]) | (refine awp_exit ?_; simp [wr])))
        refine ⟨i + 1, by omega, by omega, ?_⟩
        rw [hr, hm]
        exact wk_gcl [2] (gcOk_of (by decide) (by simp [intB, intsC, renS])) (by simp [intV, hra, h0])
      | cons x r =>
        rw [hm] at hrl
        simp at hrl
        simp [hm, intV, intB, maxLen, intsC_one]
        (repeat' (first | refine awp_seq ?_ | (refine awp_region tabOk ?_; simp [wr]) | (refine awp_if ?_; simp [wr]) | refine awp_block ?_ | refine And.intro ?_ ?_ | intro _ | (refine awp_skip ?_; simp [wr]) | (refine awp_ret ?_; simp [wr]) | (refine awp_exit ?_; simp [wr])))
        · omega
        · omega
        refine ⟨i + 1, by omega, by omega, ?_⟩
        rw [hr, hm]
        exact wk_gcl [2] (gcOk_of (by decide) (by simp [intB, intsC_one])) (by simp [intV, hra, hrl])
    · obtain rfl : i = n := by omega
      (repeat' (first | refine awp_seq ?_ | (refine awp_region tabOk ?_; simp [hlt]) | (refine awp_if ?_; simp [hlt]) | refine awp_block ?_ | refine And.intro ?_ ?_ | intro _ | (refine awp_skip ?_; simp [hlt]) | (refine awp_ret ?_; simp [hlt]) | (refine awp_exit ?_; simp [hlt])))
      refine awp_loop_at (α := {s : Nat × List Nat × Nat // LeftOk l s.1 s.2.1 ∧ s.1 < 2 * i ∧ s.2.2 ≤ 120 * (s.1 - 1) ∧ ∃ f, 2 * i + 1 ≤ f + s.1 ∧ halves l = hv l f s.1 s.2.1 s.2.2}) (fun s => [(0, .c (.sc a)), (6, .c (.sc (.int .i64 i))), (7, .c (.sc (.int .i64 s.1.2.2))), (8, .c (.sc (intV H.length (nI s.1.2.1)))), (10, .c (.sc (.int .i64 s.1.1)))])
        (fun s => H ++ [intB (nI s.1.2.1)]) (fun s => 2 * i - s.1.1) ⟨(1, List.range i, 0), by rw [← hn]; exact LeftOk.zero l, by show 1 < 2 * i; omega, by simp, 2 * i, by simp, by rw [← hn]; rfl⟩ (wk_tl (by simp)) ?_
      rintro ⟨⟨far, left, sent⟩, hL, hf2, hsb, f, hfu, hh⟩
      simp only at hL hf2 hsb hfu hh
      have hf1 := hL.far1
      have hll := hL.len
      obtain ⟨f, rfl⟩ : ∃ g, f = g + 1 := ⟨f - 1, by omega⟩
      unfold hv at hh
      rw [hn] at hh hll
      have hcl := costs_le l far left
      have hcl2 : 4 * far * left.length ≤ 4 * far * 30 := Nat.mul_le_mul (Nat.le_refl _) (by omega)
      have hct : ∀ j, costs l far (left.take j) ≤ 4 * far * 30 := fun j => Nat.le_trans (costs_le l far _) (Nat.mul_le_mul (Nat.le_refl _) (by have := List.length_take_le' j left; omega))
      have ln : lenC ⟨.slice 3, 1, 24, .sc .nils, none⟩ (.sc (intV H.length (nI left))) = some (left.length : Int) := by
        have := (ISl.own (H := H ++ [intB (nI left)]) (id := H.length) (xs := nI left) (by simp)).len
        simpa using this
      (repeat' (first | refine awp_seq ?_ | (refine awp_region tabOk ?_; simp [-lenC, ln]) | (refine awp_if ?_; simp [-lenC, ln]) | refine awp_block ?_ | refine And.intro ?_ ?_ | intro _ | (refine awp_skip ?_; simp [-lenC, ln]) | (refine awp_ret ?_; simp [-lenC, ln]) | (refine awp_exit ?_; simp [-lenC, ln])))
      refine awp_loop_at (α := {p : Nat × Nat // p.1 ≤ left.length ∧ p.2 = sent + costs l far (left.take p.1) ∧ (0 < p.1 → far < i)}) (fun p => [(0, .c (.sc a)), (6, .c (.sc (.int .i64 i))), (7, .c (.sc (.int .i64 p.1.2))), (8, .c (.sc (intV H.length (nI left)))), (10, .c (.sc (.int .i64 far))), (11, .c (.sc (intV (H.length + 1) (nI ((left.take p.1.1).filter (ok l far)))))), (37, .c (.sc (intV H.length (nI left)))), (38, .c (.sc (.int .i64 left.length))), (39, .c (.sc (.int .i64 p.1.1)))])
        (fun p => H ++ [intB (nI left), intB (nI ((left.take p.1.1).filter (ok l far)))]) (fun p => left.length - p.1.1) ⟨(0, sent), by simp, by simp [costs], by simp⟩ (wk_gcl [0, 9] (gcOk_of (by decide) (by simp)) (by simp [hra])) ?_
      rintro ⟨⟨j, S⟩, hj, hS, hjf⟩
      simp only at hj hS hjf
      have hSb := hct j
      by_cases hjl : j < left.length
      · obtain ⟨k, hk⟩ : ∃ k, left[j]? = some k := ⟨left[j], List.getElem?_eq_getElem hjl⟩
        have hkl : k < i := hn ▸ hL.lt (List.mem_of_getElem? hk)
        have hV := intV_ne (id := H.length) (xs := nI left) (by rw [nI_len]; omega)
        have hB := intB_ne (xs := nI left) (by rw [nI_len]; omega)
        have hak := intsC_at _ (nI_at hk)
        obtain ⟨_, hak2⟩ := List.getElem?_eq_some_iff.1 hak
        have wj := wrapS j (by omega)
        have hpb1 := look_le l 1 k far far 1 (by omega)
        have hpb2 := look_le l (i - 1) k far far 1 (by omega)
        have wn : IntKind.i64.wrap ((i : Int) - 1) = ((i - 1 : Nat) : Int) := by rw [wrap_in _ (by omega) (by omega)]; omega
        have ec : cost l far k = (probeA l 1 k far).1 + (probeA l (i - 1) k far).1 := by unfold cost; rw [hn]
        have hcost := cost_le l far k
        have wc : IntKind.i64.wrap (((probeA l 1 k far).1 : Nat) + ((probeA l (i - 1) k far).1 : Nat)) = (cost l far k : Nat) := by
          rw [ec, wrap_in _ (by omega) (by omega)]; omega
        have wS : IntKind.i64.wrap ((S : Int) + (cost l far k : Nat)) = ((S + cost l far k : Nat) : Int) := by rw [wrap_in _ (by omega) (by omega)]; omega
        have eo : ok l far k = ((probeA l 1 k far).2 && (probeA l (i - 1) k far).2) := by unfold ok; rw [hn]
        have hS1 : S + cost l far k = sent + costs l far (left.take (j + 1)) := by rw [take_snoc hk, costs_snoc]; omega
        have hfs : (left.take (j + 1)).filter (ok l far) = (left.take j).filter (ok l far) ++ if ok l far k then [k] else [] := by
          rw [take_snoc hk, List.filter_append]; congr 1; cases h : ok l far k <;> simp [h]
        have hnl : ((left.take j).filter (ok l far)).length ≤ 30 := Nat.le_trans (List.length_filter_le _ _) (by have := List.length_take_le' j left; omega)
        obtain ⟨p1, hp1⟩ : ∃ p, probeA l 1 k far = p := ⟨_, rfl⟩
        obtain ⟨p2, hp2⟩ : ∃ p, probeA l (i - 1) k far = p := ⟨_, rfl⟩
        (repeat' (first | refine awp_seq ?_ | (refine awp_region tabOk ?_; simp [hjl, hV, hB, hak, hak2]) | (refine awp_if ?_; simp [hjl, hV, hB, hak, hak2]) | refine awp_block ?_ | refine And.intro ?_ ?_ | intro _ | (refine awp_skip ?_; simp [hjl, hV, hB, hak, hak2]) | (refine awp_ret ?_; simp [hjl, hV, hB, hak, hak2]) | (refine awp_exit ?_; simp [hjl, hV, hB, hak, hak2])))
        refine ringProbe (l := l) (w := 1) (ha.app _) (by omega) (by omega) rfl (by omega) (by omega) ?_
        ((try simp [wn]); (repeat' (first | refine awp_seq ?_ | (refine awp_region tabOk ?_; simp [wn]) | (refine awp_if ?_; simp [wn]) | refine awp_block ?_ | refine And.intro ?_ ?_ | intro _ | (refine awp_skip ?_; simp [wn]) | (refine awp_ret ?_; simp [wn]) | (refine awp_exit ?_; simp [wn]))))
        refine ringProbe (l := l) (w := i - 1) (ha.app _) (by omega) (by omega) rfl (by omega) (by omega) ?_
        ((try simp [wc, wS, Int.natCast_add]); (repeat' (first | refine awp_seq ?_ | (refine awp_region tabOk ?_; simp [wc, wS, Int.natCast_add]) | (refine awp_if ?_; simp [wc, wS, Int.natCast_add]) | refine awp_block ?_ | refine And.intro ?_ ?_ | intro _ | (refine awp_skip ?_; simp [wc, wS, Int.natCast_add]) | (refine awp_ret ?_; simp [wc, wS, Int.natCast_add]) | (refine awp_exit ?_; simp [wc, wS, Int.natCast_add]))))
        · rename_i b1 b2 b3
          obtain ⟨m, hm, hlm, hom⟩ := hL.one hR.nd (by omega) (by omega)
          rw [if_pos b3] at hh
          subst hlm
          obtain rfl : j = 0 := by simpa using hjl
          obtain rfl : m = k := by simpa using hk
          have e1 : (halves l).1 = m := by rw [hh]; rfl
          have e2 : (halves l).2 = S + cost l far m := by rw [hh, hS]; simp [costs]
          rw [e1, e2] at q
          exact ⟨H, _, gcTo_none (fun _ => rfl), by simpa using q⟩
        · rename_i b1 b2 b3
          have hff : far < i := by omega
          have hok : ok l far k = true := by rw [eo, b1, b2]; rfl
          rw [if_pos hok] at hfs
          have hfl : (nI ((left.take j).filter (ok l far))).length ≤ 30 := by rw [nI_len]; exact hnl
          cases hm : nI ((left.take j).filter (ok l far)) with
          | nil =>
            have h0 : (left.take j).filter (ok l far) = [] := by simpa [nI] using hm
            simp [hm, intV, intB, maxLen]
            (repeat' (first | refine awp_seq ?_ | (refine awp_region tabOk ?_; simp [wj]) | (refine awp_if ?_; simp [wj]) | refine awp_block ?_ | refine And.intro ?_ ?_ | intro _ | (refine awp_skip ?_; simp [wj]) | (refine awp_ret ?_; simp [wj]) | (refine awp_exit ?_; simp [wj])))
            refine ⟨j + 1, by omega, S + cost l far k, ⟨by omega, hS1, fun _ => hff⟩, ?_⟩
            rw [hfs, nI_app, nI_one, hm]
            exact wk_gcl [0, 3] (gcOk_of (by decide) (by simp [hB, intB, intsC, renS])) (by simp [hV, intV, hra, h0])
          | cons x r =>
            rw [hm] at hfl
            have h0 : ((left.take j).filter (ok l far)).length = r.length + 1 := by rw [← nI_len, hm]; rfl
            simp at hfl
            simp [hm, intV, intB, maxLen, intsC_one]
            (repeat' (first | refine awp_seq ?_ | (refine awp_region tabOk ?_; simp [wj]) | (refine awp_if ?_; simp [wj]) | refine awp_block ?_ | refine And.intro ?_ ?_ | intro _ | (refine awp_skip ?_; simp [wj]) | (refine awp_ret ?_; simp [wj]) | (refine awp_exit ?_; simp [wj])))
            · omega
            · omega
            refine ⟨j + 1, by omega, S + cost l far k, ⟨by omega, hS1, fun _ => hff⟩, ?_⟩
            rw [hfs, nI_app, nI_one, hm]
            exact wk_gcl [0, 3] (gcOk_of (by decide) (by simp [hB, intB, intsC_one])) (by simp [hV, intV, hra, h0])
        · rename_i b1
          have hok : ok l far k = false := by
            rw [eo]; cases h1 : (probeA l 1 k far).2 with
            | false => rfl
            | true => rw [b1 h1]; rfl
          rw [if_neg (by rw [hok]; simp), List.append_nil] at hfs
          have hff : far < i := by
            rcases Nat.lt_or_ge far i with h | h
            · exact h
            · obtain ⟨m, hm, hlm, hom⟩ := hL.one hR.nd (by omega) (by omega)
              subst hlm
              obtain rfl : j = 0 := by simpa using hjl
              obtain rfl : m = k := by simpa using hk
              rw [hok] at hom; cases hom
          refine ⟨j + 1, by omega, S + cost l far k, ⟨by omega, hS1, fun _ => hff⟩, ?_⟩
          rw [hfs, ← hB]
          exact wk_tl (by simp [hV, wj])
      · obtain rfl : j = left.length := by omega
        have hfar : far < i := hjf (by
          obtain ⟨m, hm, hx⟩ := max_ex l l.length (by omega) (Nat.le_refl _)
          exact List.length_pos_of_mem (hL.max m hm hx))
        have wf : IntKind.i64.wrap ((far : Int) * 2) = ((2 * far : Nat) : Int) := by rw [wrap_in _ (by omega) (by omega)]; omega
        rw [if_neg (by omega)] at hh
        rw [List.take_length] at hS
        (repeat' (first | refine awp_seq ?_ | (refine awp_region tabOk ?_; simp [wf]) | (refine awp_if ?_; simp [wf]) | refine awp_block ?_ | refine And.intro ?_ ?_ | intro _ | (refine awp_skip ?_; simp [wf]) | (refine awp_ret ?_; simp [wf]) | (refine awp_exit ?_; simp [wf])))
        exact ⟨2 * far, by omega, left.filter (ok l far), S, ⟨hL.next (by omega), by omega, by omega, f, by omega, by rw [hh, hS]⟩, wk_gcl [1] (gcOk_of (by decide) (by simp)) (by simp [hra])⟩
  · ((try simp [he]); (repeat' (first | refine awp_seq ?_ | (refine awp_region tabOk ?_; simp [he]) | (refine awp_if ?_; simp [he]) | refine awp_block ?_ | refine And.intro ?_ ?_ | intro _ | (refine awp_skip ?_; simp [he]) | (refine awp_ret ?_; simp [he]) | (refine awp_exit ?_; simp [he]))))
    exact ⟨H, _, GcTo.refl (Nat.le_refl _), q0 he⟩
end Go.Proofs.Ytdeockoaalpcjaa
