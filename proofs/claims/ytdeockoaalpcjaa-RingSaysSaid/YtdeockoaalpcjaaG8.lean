/- RingSays: partref.Halves. -/
import Derived.Test.YtdeockoaalpcjaaG7
namespace Go.Proofs.Ytdeockoaalpcjaa
set_option linter.unusedSimpArgs false
set_option linter.unusedVariables false
open Go.RowKit
attribute [local irreducible] AWP ACalls Wk GcTo
attribute [local simp] tab3 ti3 tab24 ti24 tab183 ti183 tab185 ti185
open Rg
theorem toks_len (L : List Nat) : (toks L).length = 2 * L.length := by
  induction L with
  | nil => rfl
  | cons x r ih => have e : toks (x :: r) = ⟨x, true, 0⟩ :: ⟨x, false, 0⟩ :: toks r := rfl
                   rw [e]; simp [ih]; omega
theorem bk_zero2 (n : Nat) : List.replicate n (Sc.int .i64 0) = intsC (bk (fun _ => 0) n) := by rw [← bk_zero]; simp
set_option maxRecDepth 100000 in
set_option maxHeartbeats 2000000 in
theorem refHalves {H : List Blk} {a : Sc} {l : List Int} {Q : AV → List Blk → Prop} (ha : ISl H a l) (he : err l = 0)
    (q : Q (.tup [.sc (.int .i64 ((halves l).1 : Nat)), .sc (.int .i64 ((halves l).2 : Nat))]) H) :
    ACalls Try.prog 34 [.sc a] H Q := by
  refine acalls_of tabOk Try.func34 (by kernel_rfl) rfl (by kernel_rfl) ?_
  have hR := right_of he
  have hra := ha.ren
  obtain ⟨n, hn⟩ : ∃ n, l.length = n := ⟨_, rfl⟩
  have hn1 : 1 ≤ n := hn ▸ hR.n1
  have hn2 : n ≤ 30 := hn ▸ hR.n2
  have la := ha.len
  rw [hn] at la
  have mk : (8 : Int) * n ≤ 281474976710656 := by omega
  have mk2 : (n : Int) ≤ 9223372036854775807 := by omega
  (repeat' (first | refine awp_seq ?_ | (refine awp_region tabOk ?_; simp [-lenC, la, mk, mk2, bk_zero2]) | (refine awp_if ?_; simp [-lenC, la, mk, mk2, bk_zero2]) | refine awp_block ?_ | refine And.intro ?_ ?_ | intro _ | (refine awp_skip ?_; simp [-lenC, la, mk, mk2, bk_zero2]) | (refine awp_ret ?_; simp [-lenC, la, mk, mk2, bk_zero2]) | (refine awp_exit ?_; simp [-lenC, la, mk, mk2, bk_zero2])))
  · trivial
  refine awp_loop_at (α := {i : Nat // i ≤ n}) (fun i => [(0, .c (.sc a)), (4, .c (.sc (.int .i64 n))), (5, .c (.sc (.int .i64 0))), (6, .c (.sc (.sl H.length 0 1 n n))), (22, .c (.sc (.int .i64 n))), (23, .c (.sc (.int .i64 i.1)))]) (fun i => H ++ [.own (intsC (bk (fun j => if j < i.1 then (j : Int) else 0) n))]) (fun i => n - i.1) ⟨0, by omega⟩ (wk_gcl [0] (gcOk_of (by decide) (by simp)) (by simp [hra])) ?_
  rintro ⟨i, hi⟩
  by_cases hlt : i < n
  · have wr := wrapS i (by omega)
    have st : (intsC (bk (fun j => if j < i then (j : Int) else 0) n)).set i (.int .i64 i) = intsC (bk (fun j => if j < i + 1 then (j : Int) else 0) n) := by
      rw [bk_set _ hlt]
      rw [bk_congr fun j hj => ?_]
      by_cases e : j = i
      · subst e; simp
      · by_cases e2 : j < i
        · simp [e, e2, show j < i + 1 by omega]
        · simp [e, e2, show ¬j < i + 1 by omega]
    have c1 : i + 1 ≤ n := by omega
    (repeat' (first | refine awp_seq ?_ | (refine awp_region tabOk ?_; simp [hlt, st, c1]) | (refine awp_if ?_; simp [hlt, st, c1]) | refine awp_block ?_ | refine And.intro ?_ ?_ | intro _ | (refine awp_skip ?_; simp [hlt, st, c1]) | (refine awp_ret ?_; simp [hlt, st, c1]) | (refine awp_exit ?_; simp [hlt, st, c1])))
    exact ⟨i + 1, by omega, by omega, wk_tl (by simp [wr])⟩
  · obtain rfl : i = n := by omega
    have eB : intsC (bk (fun j => if j < i then (j : Int) else 0) i) = intsC (nI (List.range i)) := by
      rw [← bk_range, bk_congr fun j hj => if_pos hj]
    have hV0 := intV_ne (id := H.length) (xs := nI (List.range i)) (by rw [nI_len, List.length_range]; omega)
    have hB0 := intB_ne (xs := nI (List.range i)) (by rw [nI_len, List.length_range]; omega)
    (repeat' (first | refine awp_seq ?_ | (refine awp_region tabOk ?_; simp [hlt]) | (refine awp_if ?_; simp [hlt]) | refine awp_block ?_ | refine And.intro ?_ ?_ | intro _ | (refine awp_skip ?_; simp [hlt]) | (refine awp_ret ?_; simp [hlt]) | (refine awp_exit ?_; simp [hlt])))
    rw [eB]
    refine awp_loop_at (α := {s : Nat × List Nat × Nat // LeftOk l s.1 s.2.1 ∧ s.1 < 2 * i ∧ s.2.2 ≤ 120 * (s.1 - 1) ∧ ∃ f, 2 * i + 1 ≤ f + s.1 ∧ halves l = hv l f s.1 s.2.1 s.2.2}) (fun s => [(0, .c (.sc a)), (4, .c (.sc (.int .i64 i))), (5, .c (.sc (.int .i64 s.1.2.2))), (6, .c (.sc (intV H.length (nI s.1.2.1)))), (8, .c (.sc (.int .i64 s.1.1)))])
      (fun s => H ++ [intB (nI s.1.2.1)]) (fun s => 2 * i - s.1.1) ⟨(1, List.range i, 0), by rw [← hn]; exact LeftOk.zero l, by show 1 < 2 * i; omega, by simp, 2 * i, by simp, by rw [← hn]; rfl⟩ (wk_gcl [0] (gcOk_of (by decide) (by simp [hB0])) (by simp [hra, hV0])) ?_
    rintro ⟨⟨far, left, sent⟩, hL, hf2, hsb, f, hfu, hh⟩
    simp only at hL hf2 hsb hfu hh
    have hf1 := hL.far1
    have hll := hL.len
    have hnd := hL.nodup
    obtain ⟨f, rfl⟩ : ∃ g, f = g + 1 := ⟨f - 1, by omega⟩
    unfold hv at hh
    rw [hn] at hh hll
    have hcl := costs_le l far left
    have hcl2 : 4 * far * left.length ≤ 4 * far * 30 := Nat.mul_le_mul (Nat.le_refl _) (by omega)
    have hlp : 0 < left.length := by
      obtain ⟨m, hm, hx⟩ := max_ex l l.length (by omega) (Nat.le_refl _)
      exact List.length_pos_of_mem (hL.max m hm hx)
    have hV := intV_ne (id := H.length) (xs := nI left) (by rw [nI_len]; omega)
    have hB := intB_ne (xs := nI left) (by rw [nI_len]; omega)
    (repeat' (first | refine awp_seq ?_ | (refine awp_region tabOk ?_; simp [mk, mk2, bk_zero2, hV]) | (refine awp_if ?_; simp [mk, mk2, bk_zero2, hV]) | refine awp_block ?_ | refine And.intro ?_ ?_ | intro _ | (refine awp_skip ?_; simp [mk, mk2, bk_zero2, hV]) | (refine awp_ret ?_; simp [mk, mk2, bk_zero2, hV]) | (refine awp_exit ?_; simp [mk, mk2, bk_zero2, hV])))
    refine awp_loop_at (α := {j : Nat // j ≤ left.length}) (fun j => [(0, .c (.sc a)), (4, .c (.sc (.int .i64 i))), (5, .c (.sc (.int .i64 sent))), (8, .c (.sc (.int .i64 far))), (9, .c (.sc (.sl (H.length + 1) 0 1 i i))), (10, .c (.sc (gV 4 (H.length + 2) (toks (left.take j.1))))), (35, .c (.sc (.sl H.length 0 1 left.length left.length))), (36, .c (.sc (.int .i64 left.length))), (37, .c (.sc (.int .i64 j.1)))])
      (fun j => H ++ [.own (intsC (nI left)), .own (intsC (bk (fun _ => 0) i)), gB (Tok.enc i far) (toks (left.take j.1))]) (fun j => left.length - j.1) ⟨0, by omega⟩ (wk_gcl [0, 1, 9] (gcOk_of (by decide) (by simp [hB, toks])) (by simp [hra, toks])) ?_
    rintro ⟨j, hj⟩
    by_cases hjl : j < left.length
    · obtain ⟨k, hk⟩ : ∃ k, left[j]? = some k := ⟨left[j], List.getElem?_eq_getElem hjl⟩
      have hkl : k < i := hn ▸ hL.lt (List.mem_of_getElem? hk)
      have hak := intsC_at _ (nI_at hk)
      obtain ⟨_, hak2⟩ := List.getElem?_eq_some_iff.1 hak
      have wj := wrapS j (by omega)
      have hct : toks (left.take (j + 1)) = toks (left.take j) ++ [⟨k, true, 0⟩, ⟨k, false, 0⟩] := by rw [take_snoc hk, toks_snoc]
      have e0 : pos i (wOf i true) k 0 = k := by unfold pos; rw [Nat.zero_mul, Nat.add_zero, Nat.mod_eq_of_lt hkl]
      have e1 : pos i (wOf i false) k 0 = k := by unfold pos; rw [Nat.zero_mul, Nat.add_zero, Nat.mod_eq_of_lt hkl]
      have hxl : (toks (left.take j)).length ≤ 60 := by
        rw [toks_len]; have := List.length_take_le' j left; omega
      generalize toks (left.take j) = X at *
      (repeat' (first | refine awp_seq ?_ | (refine awp_region tabOk ?_; simp [hjl, hak, hak2]) | (refine awp_if ?_; simp [hjl, hak, hak2]) | refine awp_block ?_ | refine And.intro ?_ ?_ | intro _ | (refine awp_skip ?_; simp [hjl, hak, hak2]) | (refine awp_ret ?_; simp [hjl, hak, hak2]) | (refine awp_exit ?_; simp [hjl, hak, hak2])))
      by_cases hX : X = []
      · subst hX
        simp [maxLen]
        (repeat' (first | refine awp_seq ?_ | (refine awp_region tabOk ?_; simp [wj]) | (refine awp_if ?_; simp [wj]) | refine awp_block ?_ | refine And.intro ?_ ?_ | intro _ | (refine awp_skip ?_; simp [wj]) | (refine awp_ret ?_; simp [wj]) | (refine awp_exit ?_; simp [wj])))
        refine ⟨j + 1, by omega, by omega, ?_⟩
        rw [hct]
        exact wk_gcl [0, 1, 4] (gcOk_of (by decide) (by simp [gB, Tok.enc, e0, e1])) (by simp [hra, gV])
      · have hXl : 0 < X.length := List.length_pos_iff.2 hX
        have hV2 := gV_ne (es := 4) (id := H.length + 2) (xs := X) (by omega)
        have hB2 := gB_ne (enc := Tok.enc i far) (xs := X) (by omega)
        have hF := flat_len (enc := Tok.enc i far) (es := 4) (fun _ => rfl) X
        have hA : (X.flatMap (Tok.enc i far)).take (X.length * 4) = X.flatMap (Tok.enc i far) := List.take_of_length_le (by rw [hF]; exact Nat.le_refl _)
        have hN : ∀ m, (X.flatMap (Tok.enc i far)).map (renS m) = X.flatMap (Tok.enc i far) := fun m => ren_flat (enc := Tok.enc i far) (m := m) (fun t => by cases t with | mk i b j => cases b <;> rfl) X
        have hs2 : gB (Tok.enc i far) (X ++ [⟨k, true, 0⟩, ⟨k, false, 0⟩]) = .own (X.flatMap (Tok.enc i far) ++ (Tok.enc i far ⟨k, true, 0⟩ ++ Tok.enc i far ⟨k, false, 0⟩)) := by
          rw [gB_ne (by simp)]; simp
        have hv2 : ∀ id, gV 4 id (X ++ [⟨k, true, 0⟩, ⟨k, false, 0⟩]) = .sl id 0 4 (X.length + 2) (X.length + 2) := fun id => by
          rw [gV_ne (by simp)]; simp
        generalize X.flatMap (Tok.enc i far) = F at *
        simp [hV2, hB2, hF, hA, maxLen]
        (repeat' (first | refine awp_seq ?_ | (refine awp_region tabOk ?_; simp [wj]) | (refine awp_if ?_; simp [wj]) | refine awp_block ?_ | refine And.intro ?_ ?_ | intro _ | (refine awp_skip ?_; simp [wj]) | (refine awp_ret ?_; simp [wj]) | (refine awp_exit ?_; simp [wj])))
        · omega
        · omega
        refine ⟨j + 1, by omega, by omega, ?_⟩
        rw [hct, hs2, hv2]
        exact wk_gcl [0, 1, 4] (gcOk_of (by decide) (by simp [hN, Tok.enc, e0, e1])) (by simp [hra])
    · obtain rfl : j = left.length := by omega
      have hok := toks_ok (l := l) (left := left) hf1 fun x hx => hL.lt hx
      have hxl : toks left ≠ [] := by
        cases hl0 : left with
        | nil => rw [hl0] at hlp; simp at hlp
        | cons x r => simp [toks]
      have hV2 := gV_ne (es := 4) (id := H.length + 2) (xs := toks left) (by have := List.length_pos_iff.2 hxl; omega)
      have hB2 := gB_ne (enc := Tok.enc i far) (xs := toks left) (by have := List.length_pos_iff.2 hxl; omega)
      have hN : ∀ (m : Nat → Nat) (X : List Tok), (X.flatMap (Tok.enc i far)).map (renS m) = X.flatMap (Tok.enc i far) := fun m X => ren_flat (enc := Tok.enc i far) (m := m) (fun t => by cases t with | mk i b j => cases b <;> rfl) X
      have hEl : ∀ t, (Tok.enc i far t).length = 4 := fun _ => rfl
      (repeat' (first | refine awp_seq ?_ | (refine awp_region tabOk ?_; simp [hjl]) | (refine awp_if ?_; simp [hjl]) | refine awp_block ?_ | refine And.intro ?_ ?_ | intro _ | (refine awp_skip ?_; simp [hjl]) | (refine awp_ret ?_; simp [hjl]) | (refine awp_exit ?_; simp [hjl])))
      refine awp_loop_at (α := {s : List Tok × List Tok × Nat × (Nat → Nat) // (∀ t ∈ s.1, t.Ok l far) ∧ s.2.2.1 + sumL (Tok.rem l far) s.1 = sent + costs l far left ∧ (∀ k, s.2.2.2 k + sumL (Tok.hit l far k) s.1 = want l far left k) ∧ s.1.length ≤ 60})
        (fun s => [(0, .c (.sc a)), (4, .c (.sc (.int .i64 i))), (5, .c (.sc (.int .i64 s.1.2.2.1))), (8, .c (.sc (.int .i64 far))), (9, .c (.sc (.sl H.length 0 1 i i))), (10, .c (.sc (.sl (H.length + 1) (s.1.2.1.length * 4) 4 s.1.1.length s.1.1.length)))])
        (fun s => H ++ [.own (intsC (bk (fun k => s.1.2.2.2 k) i)), .own ((s.1.2.1 ++ s.1.1).flatMap (Tok.enc i far))]) (fun s => sumL (fun t => far - t.j) s.1.1)
        ⟨(toks left, [], sent, fun _ => 0), hok, by rw [toks_rem], fun k => by rw [toks_hit _ _ _ _ hnd]; simp, by rw [toks_len]; omega⟩ (wk_gcl [1, 2] (gcOk_of (by decide) (by simp [hB2, hN])) (by simp [hra, hV2])) ?_
      rintro ⟨⟨X, pre, S, g⟩, hXok, hXr, hXh, hXb⟩
      simp only at hXok hXr hXh hXb
      cases X with
      | nil =>
        have hSe : S = sent + costs l far left := by simpa [sumL] using hXr
        have hge : ∀ k, g k = want l far left k := fun k => by have := hXh k; simpa [sumL] using this
        have hSe2 := hSe
        (repeat' (first | refine awp_seq ?_ | (refine awp_region tabOk ?_; simp) | (refine awp_if ?_; simp) | refine awp_block ?_ | refine And.intro ?_ ?_ | intro _ | (refine awp_skip ?_; simp) | (refine awp_ret ?_; simp) | (refine awp_exit ?_; simp)))
        refine awp_loop_at (α := {k : Nat // k ≤ i}) (fun k => [(0, .c (.sc a)), (4, .c (.sc (.int .i64 i))), (5, .c (.sc (.int .i64 S))), (8, .c (.sc (.int .i64 far))), (14, .c (.sc (intV (H.length + 1) (nI ((List.range k.1).filter fun k => decide (want l far left k = 2)))))), (120, .c (.sc (.sl H.length 0 1 i i))), (121, .c (.sc (.int .i64 i))), (122, .c (.sc (.int .i64 k.1)))])
          (fun k => H ++ [.own (intsC (bk (fun k => g k) i)), intB (nI ((List.range k.1).filter fun k => decide (want l far left k = 2)))]) (fun k => i - k.1) ⟨0, by omega⟩ (wk_gcl [0, 9] (gcOk_of (by decide) (by simp)) (by simp [hra])) ?_
        rintro ⟨k, hk⟩
        by_cases hki : k < i
        · have hgk := intsC_at _ (bk_at (fun k => ((g k : Nat) : Int)) hki)
          obtain ⟨_, hgk2⟩ := List.getElem?_eq_some_iff.1 hgk
          have wk := wrapS k (by omega)
          have hfs : (List.range (k + 1)).filter (fun k => decide (want l far left k = 2)) = (List.range k).filter (fun k => decide (want l far left k = 2)) ++ if want l far left k = 2 then [k] else [] := by
            rw [List.range_succ, List.filter_append]; congr 1; by_cases h : want l far left k = 2 <;> simp [h]
          have hfl : ((List.range k).filter fun k => decide (want l far left k = 2)).length ≤ 30 := Nat.le_trans (List.length_filter_le _ _) (by simp; omega)
          generalize (List.range k).filter (fun k => decide (want l far left k = 2)) = X at *
          by_cases hw : want l far left k = 2
          · have hg2 : ((g k : Nat) : Int) = 2 := by rw [hge, hw]; rfl
            rw [if_pos hw] at hfs
            (repeat' (first | refine awp_seq ?_ | (refine awp_region tabOk ?_; simp [hki, hgk, hgk2, hg2]) | (refine awp_if ?_; simp [hki, hgk, hgk2, hg2]) | refine awp_block ?_ | refine And.intro ?_ ?_ | intro _ | (refine awp_skip ?_; simp [hki, hgk, hgk2, hg2]) | (refine awp_ret ?_; simp [hki, hgk, hgk2, hg2]) | (refine awp_exit ?_; simp [hki, hgk, hgk2, hg2])))
            cases X with
            | nil =>
              simp [maxLen]
              (repeat' (first | refine awp_seq ?_ | (refine awp_region tabOk ?_; simp [wk]) | (refine awp_if ?_; simp [wk]) | refine awp_block ?_ | refine And.intro ?_ ?_ | intro _ | (refine awp_skip ?_; simp [wk]) | (refine awp_ret ?_; simp [wk]) | (refine awp_exit ?_; simp [wk])))
              refine ⟨k + 1, by omega, by omega, ?_⟩
              rw [hfs]
              exact wk_gcl [0, 3] (gcOk_of (by decide) (by simp [nI, intB, intsC])) (by simp [hra, nI, intV])
            | cons x r =>
              simp at hfl
              simp [nI, intV, intB, maxLen, intsC_one]
              (repeat' (first | refine awp_seq ?_ | (refine awp_region tabOk ?_; simp [wk]) | (refine awp_if ?_; simp [wk]) | refine awp_block ?_ | refine And.intro ?_ ?_ | intro _ | (refine awp_skip ?_; simp [wk]) | (refine awp_ret ?_; simp [wk]) | (refine awp_exit ?_; simp [wk])))
              · omega
              · omega
              refine ⟨k + 1, by omega, by omega, ?_⟩
              rw [hfs]
              have htk : (r.map fun (x : Nat) => (x : Int)).take r.length = r.map fun (x : Nat) => (x : Int) := List.take_of_length_le (by simp)
              exact wk_gcl [0, 3] (gcOk_of (by decide) (by simp [nI, intB, intsC_one, htk])) (by simp [hra, nI, intV])
          · have hg2 : ¬((g k : Nat) : Int) = 2 := by rw [hge]; omega
            rw [if_neg hw, List.append_nil] at hfs
            (repeat' (first | refine awp_seq ?_ | (refine awp_region tabOk ?_; simp [hki, hgk, hgk2, hg2]) | (refine awp_if ?_; simp [hki, hgk, hgk2, hg2]) | refine awp_block ?_ | refine And.intro ?_ ?_ | intro _ | (refine awp_skip ?_; simp [hki, hgk, hgk2, hg2]) | (refine awp_ret ?_; simp [hki, hgk, hgk2, hg2]) | (refine awp_exit ?_; simp [hki, hgk, hgk2, hg2])))
            refine ⟨k + 1, by omega, by omega, ?_⟩
            rw [hfs]
            exact wk_tl (by simp [wk])
        · obtain rfl : k = i := by omega
          have hnx := next_is hL
          rw [hn] at hnx
          rw [hnx]
          by_cases hfi : k ≤ far
          · obtain ⟨m, hm, hlm, hom⟩ := hL.one hR.nd (by omega) (by omega)
            rw [if_pos hfi] at hh
            subst hlm
            have e1 : (halves l).1 = m := by rw [hh]; rfl
            have e2 : (halves l).2 = S := by rw [hh, hSe]
            rw [e1, e2] at q
            (repeat' (first | refine awp_seq ?_ | (refine awp_region tabOk ?_; simp [hki, hfi, hom, nI, intV, intB, intsC]) | (refine awp_if ?_; simp [hki, hfi, hom, nI, intV, intB, intsC]) | refine awp_block ?_ | refine And.intro ?_ ?_ | intro _ | (refine awp_skip ?_; simp [hki, hfi, hom, nI, intV, intB, intsC]) | (refine awp_ret ?_; simp [hki, hfi, hom, nI, intV, intB, intsC]) | (refine awp_exit ?_; simp [hki, hfi, hom, nI, intV, intB, intsC])))
            exact ⟨H, _, gcTo_none (fun _ => rfl), q⟩
          · have hff : far < k := by omega
            have wf : IntKind.i64.wrap ((far : Int) * 2) = ((2 * far : Nat) : Int) := by rw [wrap_in _ (by omega) (by omega)]; omega
            rw [if_neg hfi] at hh
            (repeat' (first | refine awp_seq ?_ | (refine awp_region tabOk ?_; simp [hki, hfi, hff, wf]) | (refine awp_if ?_; simp [hki, hfi, hff, wf]) | refine awp_block ?_ | refine And.intro ?_ ?_ | intro _ | (refine awp_skip ?_; simp [hki, hfi, hff, wf]) | (refine awp_ret ?_; simp [hki, hfi, hff, wf]) | (refine awp_exit ?_; simp [hki, hfi, hff, wf])))
            exact ⟨2 * far, by omega, left.filter (ok l far), S, ⟨hL.next (by omega), by omega, by omega, f, by omega, by rw [hh, hSe]⟩, wk_gcl [1] (gcOk_of (by decide) (by simp)) (by simp [hra])⟩
      | cons t R =>
        obtain ⟨k, b, j⟩ := t
        obtain ⟨hki, hjf, hpr⟩ := hXok _ (List.mem_cons_self ..)
        simp only at hki hjf hpr
        rw [hn] at hki
        have hRok : ∀ t ∈ R, t.Ok l far := fun t ht => hXok t (List.mem_cons_of_mem _ ht)
        have hge := (hXok _ (List.mem_cons_self ..)).ge
        simp only at hge
        have hhit := hXh
        simp only [sumL] at hXr hhit
        simp only [List.length_cons] at hXb
        have hg2 : ∀ k, g k ≤ 2 := fun k => by
          have h1 := hhit k
          have : want l far left k ≤ 2 := by unfold want; split; split <;> split <;> omega; omega
          omega
        have hat : (pre ++ (⟨k, b, j⟩ : Tok) :: R)[pre.length]? = some ⟨k, b, j⟩ := by simp
        have row := flat_at (enc := Tok.enc i far) (es := 4) hEl hat
        have rlt : pre.length * 4 + 4 + R.length * 4 ≤ ((pre ++ (⟨k, b, j⟩ : Tok) :: R).flatMap (Tok.enc i far)).length := by
          rw [flat_len (es := 4) hEl]; simp; omega
        have hdr : (((pre ++ (⟨k, b, j⟩ : Tok) :: R).flatMap (Tok.enc i far)).drop (pre.length * 4 + 4)).take (R.length * 4) = R.flatMap (Tok.enc i far) := by
          have e : (pre ++ (⟨k, b, j⟩ : Tok) :: R).flatMap (Tok.enc i far) = (pre ++ [(⟨k, b, j⟩ : Tok)]).flatMap (Tok.enc i far) ++ R.flatMap (Tok.enc i far) := by simp
          have e2 : ((pre ++ [(⟨k, b, j⟩ : Tok)]).flatMap (Tok.enc i far)).length = pre.length * 4 + 4 := by rw [flat_len (es := 4) hEl]; simp; omega
          rw [e, ← e2, List.drop_left, List.take_of_length_le (by rw [flat_len (es := 4) hEl]; exact Nat.le_refl _)]
        have hpre : ∀ X : List Tok, (pre ++ [(⟨k, b, j⟩ : Tok)]) ++ X = pre ++ ⟨k, b, j⟩ :: X := fun X => by simp
        have hp0 : pos i (wOf i b) k j < i := pos_lt hki
        have hp : pos i (wOf i b) k (j + 1) < i := pos_lt hki
        obtain ⟨wy, hwy⟩ : ∃ wy : Int, (if b = true then 1 else -1) = wy := ⟨_, rfl⟩
        have row : (((pre ++ (⟨k, b, j⟩ : Tok) :: R).flatMap (Tok.enc i far)).drop (pre.length * 4)).take 4 = [.int .i64 k, .int .i64 (pos i (wOf i b) k j : Nat), .int .i64 wy, .int .i64 (far - j : Nat)] := by
          rw [row]; unfold Tok.enc; simp only [hwy]
        have w2 : (IntKind.i64.wrap (IntKind.i64.wrap (((pos i (wOf i b) k j : Nat) : Int) + wy) + i)).tmod i = ((pos i (wOf i b) k (j + 1) : Nat) : Int) := by
          cases b with
          | true =>
            simp at hwy; subst hwy
            rw [wrap_in (((pos i (wOf i true) k j : Nat) : Int) + 1) (by omega) (by omega), wrap_in _ (by omega) (by omega)]
            have := pos_step_t (n := i) (i := k) (j := j) (by omega)
            rw [← this, Int.ofNat_tmod]; rfl
          | false =>
            simp at hwy; subst hwy
            rw [wrap_in (((pos i (wOf i false) k j : Nat) : Int) + -1) (by omega) (by omega), wrap_in _ (by omega) (by omega)]
            have := pos_step_f (n := i) (i := k) (j := j) (by omega)
            rw [← this, Int.ofNat_tmod]; congr 1; omega
        have w3 : IntKind.i64.wrap (((far - j : Nat) : Int) - 1) = ((far - (j + 1) : Nat) : Int) := by rw [wrap_in _ (by omega) (by omega)]; omega
        have w1 : IntKind.i64.wrap ((S : Int) + 1) = ((S + 1 : Nat) : Int) := wrapS S (by omega)
        have wg : IntKind.i64.wrap (((g k : Nat) : Int) + 1) = ((g k + 1 : Nat) : Int) := wrapS _ (by have := hg2 k; omega)
        have hi0 : ¬i = 0 := by omega
        have hgk := intsC_at _ (bk_at (fun k => ((g k : Nat) : Int)) hki)
        obtain ⟨_, hgk2⟩ := List.getElem?_eq_some_iff.1 hgk
        have hst := bk_set (fun k => ((g k : Nat) : Int)) hki (((g k : Nat) : Int) + 1)
        have c1 : k + 1 ≤ i := by omega
        obtain ⟨id, off, cap, cs, rfl, hcap, hc, hx⟩ := ha.at (i := k) (by omega)
        have hkl : k < l.length := by omega
        have hpl : pos i (wOf i b) k (j + 1) < l.length := by omega
        have hcL := fun L => lowc_of hc L
        have hxk := hx _ _ (val_at hkl)
        have hxp := hx _ _ (val_at hpl)
        have hmul : (pre.length + 1) * 4 = pre.length * 4 + 4 := by omega
        obtain ⟨f1, hf1'⟩ : ∃ f, far - j = f + 1 := ⟨far - j - 1, by omega⟩
        have hpr2 := hpr
        rw [hf1'] at hpr2
        unfold lookA at hpr2
        rw [hn] at hpr2
        generalize hcs : (pre ++ (⟨k, b, j⟩ : Tok) :: R).flatMap (Tok.enc i far) = CS at *
        have rl1 : pre.length * 4 + 4 ≤ CS.length := by omega
        have rl2 : (1 : Int) ≤ (R.length : Int) + 1 := by omega
        have hNt : ∀ m, (Tok.enc i far ⟨k, b, j⟩).map (renS m) = Tok.enc i far ⟨k, b, j⟩ := fun m => by have := hN m [⟨k, b, j⟩]; simpa using this
        have hsum : ∀ m, (pre.flatMap (Tok.enc i far)).map (renS m) ++ ((Tok.enc i far ⟨k, b, j⟩).map (renS m) ++ (R.flatMap (Tok.enc i far)).map (renS m)) = CS := fun m => by rw [← hcs, hN, hN, hNt]; simp
        have hrn : ∀ m, CS.map (renS m) = CS := fun m => by rw [← hcs]; exact hN m _
        by_cases hpk : pos i (wOf i b) k (j + 1) = k
        · rw [if_pos hpk] at hpr2
          have er : Tok.rem l far ⟨k, b, j⟩ = 1 := by unfold Tok.rem; rw [hpr2]; simp
          have eh : ∀ q, Tok.hit l far q ⟨k, b, j⟩ = if k = q then 1 else 0 := fun q => by unfold Tok.hit; rw [hpr2]; simp
          (repeat' (first | refine awp_seq ?_ | (refine awp_region tabOk ?_; simp [row, rl1, rl2, w1, w2, w3, hi0, hpk, hki, hgk, hgk2, hst, c1, wg]) | (refine awp_if ?_; simp [row, rl1, rl2, w1, w2, w3, hi0, hpk, hki, hgk, hgk2, hst, c1, wg]) | refine awp_block ?_ | refine And.intro ?_ ?_ | intro _ | (refine awp_skip ?_; simp [row, rl1, rl2, w1, w2, w3, hi0, hpk, hki, hgk, hgk2, hst, c1, wg]) | (refine awp_ret ?_; simp [row, rl1, rl2, w1, w2, w3, hi0, hpk, hki, hgk, hgk2, hst, c1, wg]) | (refine awp_exit ?_; simp [row, rl1, rl2, w1, w2, w3, hi0, hpk, hki, hgk, hgk2, hst, c1, wg])))
          refine ⟨R, by simp only [sumL]; omega, pre ++ [⟨k, b, j⟩], S + 1, fun q => if q = k then g k + 1 else g q, ⟨hRok, by omega, fun q => ?_, by omega⟩, ?_⟩
          · have := hhit q
            rw [eh] at this
            by_cases e : q = k
            · subst e; simp at this ⊢; omega
            · have e2 : ¬k = q := fun h => e h.symm
              simp [e, e2] at this ⊢; omega
          · have ef : ∀ q, (((if q = k then g k + 1 else g q : Nat)) : Int) = if q = k then ((g k + 1 : Nat) : Int) else g q := fun q => by split <;> rfl
            exact wk_gcl [0, 1] (gcOk_of (by decide) (by simp [hrn, ef, hcs, hsum, hst])) (by simp [hra, hmul])
        · rw [if_neg hpk] at hpr2
          have hpz : ¬((pos i (wOf i b) k (j + 1) : Nat) : Int) = k := by omega
          (repeat' (first | refine awp_seq ?_ | (refine awp_region tabOk ?_; simp [row, rl1, rl2, w1, w2, w3, hi0, hpz, hki]) | (refine awp_if ?_; simp [row, rl1, rl2, w1, w2, w3, hi0, hpz, hki]) | refine awp_block ?_ | refine And.intro ?_ ?_ | intro _ | (refine awp_skip ?_; simp [row, rl1, rl2, w1, w2, w3, hi0, hpz, hki]) | (refine awp_ret ?_; simp [row, rl1, rl2, w1, w2, w3, hi0, hpz, hki]) | (refine awp_exit ?_; simp [row, rl1, rl2, w1, w2, w3, hi0, hpz, hki])))
          refine awp_draw tabOk mixed [] (by kernel_rfl) ?_
          by_cases hv : val l k < val l (pos i (wOf i b) k (j + 1))
          · rw [if_pos hv] at hpr2
            have er : Tok.rem l far ⟨k, b, j⟩ = 1 := by unfold Tok.rem; rw [hpr2]; simp
            have eh : ∀ q, Tok.hit l far q ⟨k, b, j⟩ = 0 := fun q => by unfold Tok.hit; rw [hpr2]; simp
            simp [hkl, hpl, hcL, hxk, hxp, hv]
            (repeat' (first | refine awp_seq ?_ | (refine awp_region tabOk ?_; simp [hv]) | (refine awp_if ?_; simp [hv]) | refine awp_block ?_ | refine And.intro ?_ ?_ | intro _ | (refine awp_skip ?_; simp [hv]) | (refine awp_ret ?_; simp [hv]) | (refine awp_exit ?_; simp [hv])))
            refine ⟨R, by simp only [sumL]; omega, pre ++ [⟨k, b, j⟩], S + 1, g, ⟨hRok, by omega, fun q => ?_, by omega⟩, ?_⟩
            · have := hhit q
              rw [eh] at this; omega
            · exact wk_gcl [0, 1] (gcOk_of (by decide) (by simp [hrn, hcs, hsum])) (by simp [hra, hmul])
          · rw [if_neg hv] at hpr2
            have hv' : val l (pos i (wOf i b) k (j + 1)) ≤ val l k := by omega
            simp [hkl, hpl, hcL, hxk, hxp, hv, hv']
            by_cases hl0 : far - (j + 1) = 0
            · obtain rfl : f1 = 0 := by omega
              have hpr3 : Tok.pr l far ⟨k, b, j⟩ = (2 * far, true) := hpr2
              have er : Tok.rem l far ⟨k, b, j⟩ = 1 + far := by unfold Tok.rem; rw [hpr3]; simp; omega
              have eh : ∀ q, Tok.hit l far q ⟨k, b, j⟩ = if k = q then 1 else 0 := fun q => by unfold Tok.hit; rw [hpr3]; simp
              have w4 : IntKind.i64.wrap ((S : Int) + 1 + far) = ((S + 1 + far : Nat) : Int) := by rw [wrap_in _ (by omega) (by omega)]; omega
              have hl1 : far ≤ j + 1 := by omega
              (repeat' (first | refine awp_seq ?_ | (refine awp_region tabOk ?_; simp [hv, hv', hl0, hl1, hki, hgk, hgk2, hst, c1, wg, w4]) | (refine awp_if ?_; simp [hv, hv', hl0, hl1, hki, hgk, hgk2, hst, c1, wg, w4]) | refine awp_block ?_ | refine And.intro ?_ ?_ | intro _ | (refine awp_skip ?_; simp [hv, hv', hl0, hl1, hki, hgk, hgk2, hst, c1, wg, w4]) | (refine awp_ret ?_; simp [hv, hv', hl0, hl1, hki, hgk, hgk2, hst, c1, wg, w4]) | (refine awp_exit ?_; simp [hv, hv', hl0, hl1, hki, hgk, hgk2, hst, c1, wg, w4])))
              refine ⟨R, by simp only [sumL]; omega, pre ++ [⟨k, b, j⟩], S + 1 + far, fun q => if q = k then g k + 1 else g q, ⟨hRok, by omega, fun q => ?_, by omega⟩, ?_⟩
              · have := hhit q
                rw [eh] at this
                by_cases e : q = k
                · subst e; simp at this ⊢; omega
                · have e2 : ¬k = q := fun h => e h.symm
                  simp [e, e2] at this ⊢; omega
              · have ef : ∀ q, (((if q = k then g k + 1 else g q : Nat)) : Int) = if q = k then ((g k + 1 : Nat) : Int) else g q := fun q => by split <;> rfl
                exact wk_gcl [0, 1] (gcOk_of (by decide) (by simp [hrn, ef, hcs, hsum, hst])) (by simp [hra, hmul])
            · have hl1 : j + 1 < far := by omega
              have hl2 : ¬((far - (j + 1) : Nat) : Int) = 0 := by omega
              (repeat' (first | refine awp_seq ?_ | (refine awp_region tabOk ?_; simp [hv, hv', hl0, hl2]) | (refine awp_if ?_; simp [hv, hv', hl0, hl2]) | refine awp_block ?_ | refine And.intro ?_ ?_ | intro _ | (refine awp_skip ?_; simp [hv, hv', hl0, hl2]) | (refine awp_ret ?_; simp [hv, hv', hl0, hl2]) | (refine awp_exit ?_; simp [hv, hv', hl0, hl2])))
              · exact rlt
              · omega
              · unfold maxLen; omega
              have hok' : (⟨k, b, j + 1⟩ : Tok).Ok l far := ⟨by show k < l.length; omega, hl1, by
                show Tok.pr l far ⟨k, b, j⟩ = lookA l (wOf l.length b) k far (far - (j + 1)) (j + 1 + 1)
                rw [hpr2, hn, show far - (j + 1) = f1 by omega]⟩
              have er : Tok.rem l far ⟨k, b, j⟩ = Tok.rem l far ⟨k, b, j + 1⟩ + 1 := by
                have := hok'.ge
                have e : Tok.pr l far ⟨k, b, j + 1⟩ = Tok.pr l far ⟨k, b, j⟩ := rfl
                rw [e] at this
                unfold Tok.rem; rw [e]; simp only at this ⊢; omega
              have eh : ∀ q, Tok.hit l far q ⟨k, b, j⟩ = Tok.hit l far q ⟨k, b, j + 1⟩ := fun q => rfl
              refine ⟨R ++ [⟨k, b, j + 1⟩], by simp only [sumL, sumL_app]; omega, [], S + 1, g, ⟨fun t ht => ?_, by simp only [sumL, sumL_app]; omega, fun q => ?_, by simp; omega⟩, ?_⟩
              · rcases List.mem_append.1 ht with h | h
                · exact hRok t h
                · simp at h; subst h; exact hok'
              · have := hhit q
                rw [eh] at this; simp only [sumL, sumL_app]; omega
              · exact wk_gcl [0, 4] (gcOk_of (by decide) (by simp [hdr, hN, Tok.enc, hwy])) (by simp [hra])
end Go.Proofs.Ytdeockoaalpcjaa
