/- RingSays: partref.Round. -/
import Derived.Test.YtdeockoaalpcjaaG4
namespace Go.Proofs.Ytdeockoaalpcjaa
set_option linter.unusedSimpArgs false
set_option linter.unusedVariables false
open Go.RowKit
attribute [local irreducible] AWP ACalls Wk GcTo
attribute [local simp] tab3 ti3 tab24 ti24 tab183 ti183 tab185 ti185
open Rg
theorem gV_lenC {α : Type} {es id : Nat} {xs : List α} {i : TI} {e : TypeId} (hi : i.k = .slice e) : lenC i (.sc (gV es id xs)) = some (xs.length : Int) := by
  cases xs <;> simp [lenC, hi, gV]
theorem gB_snoc {α : Type} {enc : α → List Sc} (xs : List α) (x : α) : gB enc (xs ++ [x]) = .own (xs.flatMap enc ++ enc x) := by
  cases xs <;> simp [gB]
theorem gV_snoc {α : Type} {es id : Nat} (xs : List α) (x : α) : gV es id (xs ++ [x]) = .sl id 0 es (xs.length + 1) (xs.length + 1) := by
  cases xs <;> simp [gV]
namespace Rg
def tk (n s i : Nat) : List Sc := [.int .i64 i, .int .i64 (pos n 1 i s : Nat), .int .i64 0, .int .i64 0]
def tk0 (i : Nat) : List Sc := [.int .i64 i, .int .i64 i, .int .i64 0, .int .i64 0]
theorem tk_start (n : Nat) : gB tk0 (List.range n) = gB (tk n 0) ((List.range n).filter fun i => alive [] 1 i 0) := by
  have e : (List.range n).filter (fun i => alive [] 1 i 0) = List.range n := List.filter_eq_self.2 fun _ _ => rfl
  rw [e]
  have : (List.range n).flatMap tk0 = (List.range n).flatMap (tk n 0) := by
    have : ∀ i ∈ List.range n, tk0 i = tk n 0 i := fun i hi => by
      rw [List.mem_range] at hi; unfold tk0 tk pos; rw [Nat.zero_mul, Nat.add_zero, Nat.mod_eq_of_lt hi]
    rw [List.flatMap_def, List.flatMap_def, List.map_congr_left this]
  cases hr : List.range n with
  | nil => rfl
  | cons x r => rw [hr] at this; rw [gB_cons, gB_cons, this]
def lastD (xs : List Nat) (d : Int) : Int := match xs.getLast? with | some x => x | none => d
theorem lastD_snoc (xs : List Nat) (x : Nat) (d : Int) : lastD (xs ++ [x]) d = x := by simp [lastD]
theorem last_filter (p : Nat → Bool) (d : Int) : ∀ n, last p d n = lastD ((List.range n).filter p) d
  | 0 => rfl
  | n + 1 => by
    rw [List.range_succ, List.filter_append]
    cases h : p n with
    | true => simp only [last, h, if_true, List.filter_cons, List.filter_nil]; rw [lastD_snoc]
    | false => simp only [last, h, List.filter_cons, List.filter_nil, Bool.false_eq_true, if_false, List.append_nil]; exact last_filter p d n
theorem ws_next (l : List Int) (s : Nat) : (((List.range l.length).filter fun i => alive l 1 i s).filter fun i => alive l 1 i (s + 1)) = (List.range l.length).filter fun i => alive l 1 i (s + 1) := by
  rw [List.filter_filter]
  congr 1; funext i
  cases h : alive l 1 i (s + 1) with
  | false => rfl
  | true => rw [alive_mono h (by omega)]; rfl
end Rg
set_option maxRecDepth 100000 in
set_option maxHeartbeats 1000000 in
theorem refRound {H : List Blk} {a : Sc} {l : List Int} {Q : AV → List Blk → Prop} (ha : ISl H a l) (he : err l = 0)
    (q : Q (.tup [.sc (.int .i64 (lead l)), .sc (.int .i64 (sent l : Nat))]) H) :
    ACalls Try.prog 33 [.sc a] H Q := by
  refine acalls_of tabOk Try.func33 (by kernel_rfl) rfl (by kernel_rfl) ?_
  have hR := right_of he
  have hra := ha.ren
  obtain ⟨n, hn⟩ : ∃ n, l.length = n := ⟨_, rfl⟩
  have hn1 : 1 ≤ n := hn ▸ hR.n1
  have hn2 : n ≤ 30 := hn ▸ hR.n2
  have la := ha.len
  rw [hn] at la
  (repeat' (first | refine awp_seq ?_ | (refine awp_region tabOk ?_; simp [-lenC, la]) | (refine awp_if ?_; simp [-lenC, la]) | refine awp_block ?_ | refine And.intro ?_ ?_ | intro _ | (refine awp_skip ?_; simp [-lenC, la]) | (refine awp_ret ?_; simp [-lenC, la]) | (refine awp_exit ?_; simp [-lenC, la])))
  refine awp_loop_at (α := {i : Nat // i ≤ n}) (fun i => [(0, .c (.sc a)), (4, .c (.sc (.int .i64 n))), (5, .c (.sc (.int .i64 0))), (6, .c (.sc (.int .i64 (-1)))), (7, .c (.sc (gV 4 H.length (List.range i.1)))), (14, .c (.sc a)), (15, .c (.sc (.int .i64 n))), (16, .c (.sc (.int .i64 i.1)))]) (fun i => H ++ [gB tk0 (List.range i.1)]) (fun i => n - i.1) ⟨0, by omega⟩ (wk_gcl0 [9] (gcOk_of (by decide) (by simp)) (by simp [hra])) ?_
  rintro ⟨i, hi⟩
  by_cases hlt : i < n
  · have wr := wrapS i (by omega)
    have hr : List.range (i + 1) = List.range i ++ [i] := List.range_succ
    (repeat' (first | refine awp_seq ?_ | (refine awp_region tabOk ?_; simp [hlt]) | (refine awp_if ?_; simp [hlt]) | refine awp_block ?_ | refine And.intro ?_ ?_ | intro _ | (refine awp_skip ?_; simp [hlt]) | (refine awp_ret ?_; simp [hlt]) | (refine awp_exit ?_; simp [hlt])))
    by_cases h0 : i = 0
    · subst h0
      have w1 : IntKind.i64.wrap 1 = 1 := by rw [wrap_in _ (by omega) (by omega)]
      simp [maxLen]
      (repeat' (first | refine awp_seq ?_ | (refine awp_region tabOk ?_; simp [wr, w1]) | (refine awp_if ?_; simp [wr, w1]) | refine awp_block ?_ | refine And.intro ?_ ?_ | intro _ | (refine awp_skip ?_; simp [wr, w1]) | (refine awp_ret ?_; simp [wr, w1]) | (refine awp_exit ?_; simp [wr, w1])))
      refine ⟨1, by omega, by omega, ?_⟩
      rw [hr, gB_snoc, gV_snoc]
      exact wk_gcl [2] (gcOk_of (by decide) (by simp [tk0])) (by simp [hra, w1])
    · have hV := gV_ne (es := 4) (id := H.length) (xs := List.range i) (by simpa using h0)
      have hB := gB_ne (enc := tk0) (xs := List.range i) (by simpa using h0)
      have hF := flat_len (enc := tk0) (es := 4) (fun _ => rfl) (List.range i)
      rw [List.length_range] at hF
      have hA : ((List.range i).flatMap tk0).take (i * 4) = (List.range i).flatMap tk0 := List.take_of_length_le (by rw [hF]; exact Nat.le_refl _)
      have hN := ren_flat (enc := tk0) (m := mStd H.length [2] (H.length + 3)) (fun _ => rfl) (List.range i)
      have hs := gB_snoc (enc := tk0) (List.range i) i
      generalize (List.range i).flatMap tk0 = F at *
      simp [hV, hB, hF, hA, maxLen]
      (repeat' (first | refine awp_seq ?_ | (refine awp_region tabOk ?_; simp [wr]) | (refine awp_if ?_; simp [wr]) | refine awp_block ?_ | refine And.intro ?_ ?_ | intro _ | (refine awp_skip ?_; simp [wr]) | (refine awp_ret ?_; simp [wr]) | (refine awp_exit ?_; simp [wr])))
      · omega
      · omega
      refine ⟨i + 1, by omega, by omega, ?_⟩
      rw [hr, hs, gV_snoc]
      exact wk_gcl [2] (gcOk_of (by decide) (by simp [hN, tk0])) (by simp [hra])
  · obtain rfl : i = n := by omega
    have hst := tk_start i
    (repeat' (first | refine awp_seq ?_ | (refine awp_region tabOk ?_; simp [hlt]) | (refine awp_if ?_; simp [hlt]) | refine awp_block ?_ | refine And.intro ?_ ?_ | intro _ | (refine awp_skip ?_; simp [hlt]) | (refine awp_ret ?_; simp [hlt]) | (refine awp_exit ?_; simp [hlt])))
    have e0 : (List.range i).filter (fun j => alive l 1 j 0) = List.range i := List.filter_eq_self.2 fun _ _ => rfl
    have e1 : (List.range i).filter (fun j => alive [] 1 j 0) = List.range i := List.filter_eq_self.2 fun _ _ => rfl
    rw [e1] at hst
    refine awp_loop_at (α := {s : Nat // s ≤ i}) (fun s => [(0, .c (.sc a)), (4, .c (.sc (.int .i64 i))), (5, .c (.sc (.int .i64 (S l s.1 : Nat)))), (6, .c (.sc (.int .i64 (if s.1 = i then lead l else -1)))), (7, .c (.sc (gV 4 H.length ((List.range i).filter fun j => alive l 1 j s.1))))])
      (fun s => H ++ [gB (tk i s.1) ((List.range i).filter fun j => alive l 1 j s.1)]) (fun s => i - s.1) ⟨0, by omega⟩ (wk_gcl [0] (gcOk_of (by decide) (by rw [e0]; simp [hst]; exact .inr (ren_gB (fun _ => rfl) _).symm)) (by rw [e0]; simp [hra, S_zero, show ¬0 = i by omega])) ?_
    rintro ⟨s, hs⟩
    have hwl : ((List.range i).filter fun j => alive l 1 j s).length ≤ i := Nat.le_trans (List.length_filter_le _ _) (by simp)
    have hnx := ws_next l s
    rw [hn] at hnx
    have hlead : s + 1 = i → lastD ((List.range i).filter fun j => alive l 1 j s) (-1) = lead l := fun e => by
      have h1 := lead_is (l := l) (by omega) (-1)
      rw [last_filter, hn, ← e, Nat.add_sub_cancel] at h1
      rw [← e]; exact h1
    have hend : ((List.range i).filter fun j => alive l 1 j s) = [] → s = i := fun h => by
      rcases Nat.lt_or_ge s i with hsi | hsi
      · obtain ⟨m, h1, h2⟩ := lead_ex (l := l) (by omega)
        rw [List.filter_eq_nil_iff] at h
        exact absurd (alive_mono h2 (by omega)) (h m (List.mem_range.2 (by omega)))
      · omega
    have hsend : s = i → ((List.range i).filter fun j => alive l 1 j s) = [] := fun h => by
      rw [List.filter_eq_nil_iff]
      intro j hj
      rw [List.mem_range] at hj
      rw [h, ← hn, alive_n (by omega)]; simp
    have hSs : S l (s + 1) = S l s + ((List.range i).filter fun j => alive l 1 j s).length := by rw [S_succ, hn]; rfl
    have hSb : S l s ≤ 30 * 30 := by
      have : S l s ≤ l.length * s := sum_le (fun j => cnt_le s) _
      exact Nat.le_trans this (Nat.mul_le_mul (by omega) (by omega))
    have hws : ∀ j k, ((List.range i).filter fun j => alive l 1 j s)[j]? = some k → k < i ∧ alive l 1 k s = true := fun j k h => by
      have := List.mem_filter.1 (List.mem_of_getElem? h)
      exact ⟨List.mem_range.1 this.1, this.2⟩
    generalize hW : ((List.range i).filter fun j => alive l 1 j s) = W at *
    have lw := gV_lenC (es := 4) (id := H.length) (xs := W) (i := ⟨.slice 185, 1, 24, .sc .nils, none⟩) rfl
    by_cases hWe : W = []
    · have hsi := hend hWe
      subst hsi
      have q' := q
      have eS : sent l = S l s := by unfold sent; rw [hn]
      rw [eS] at q'
      have hW0 : W.length = 0 := by rw [hWe]; rfl
      (repeat' (first | refine awp_seq ?_ | (refine awp_region tabOk ?_; simp [-lenC, lw, hW0]) | (refine awp_if ?_; simp [-lenC, lw, hW0]) | refine awp_block ?_ | refine And.intro ?_ ?_ | intro _ | (refine awp_skip ?_; simp [-lenC, lw, hW0]) | (refine awp_ret ?_; simp [-lenC, lw, hW0]) | (refine awp_exit ?_; simp [-lenC, lw, hW0])))
      exact ⟨H, _, gcTo_none (fun _ => rfl), q'⟩
    · have hsi : s < i := by
        rcases Nat.lt_or_ge s i with h | h
        · exact h
        · exact absurd (hsend (by omega)) hWe
      have hWl : 0 < W.length := List.length_pos_iff.2 hWe
      have hV := gV_ne (es := 4) (id := H.length) (xs := W) (by omega)
      have hB := gB_ne (enc := tk i s) (xs := W) (by omega)
      have hls : ¬s = i := by omega
      (repeat' (first | refine awp_seq ?_ | (refine awp_region tabOk ?_; simp [-lenC, lw, hWl, hls]) | (refine awp_if ?_; simp [-lenC, lw, hWl, hls]) | refine awp_block ?_ | refine And.intro ?_ ?_ | intro _ | (refine awp_skip ?_; simp [-lenC, lw, hWl, hls]) | (refine awp_ret ?_; simp [-lenC, lw, hWl, hls]) | (refine awp_exit ?_; simp [-lenC, lw, hWl, hls])))
      refine awp_loop_at (α := {j : Nat // j ≤ W.length}) (fun j => [(0, .c (.sc a)), (4, .c (.sc (.int .i64 i))), (5, .c (.sc (.int .i64 (S l s + j.1 : Nat)))), (6, .c (.sc (.int .i64 (if s + 1 = i then lastD (W.take j.1) (-1) else -1)))), (9, .c (.sc (gV 4 (H.length + 1) ((W.take j.1).filter fun k => alive l 1 k (s + 1))))), (29, .c (.sc (gV 4 H.length W))), (30, .c (.sc (.int .i64 W.length))), (31, .c (.sc (.int .i64 j.1)))])
        (fun j => H ++ [gB (tk i s) W, gB (tk i (s + 1)) ((W.take j.1).filter fun k => alive l 1 k (s + 1))]) (fun j => W.length - j.1) ⟨0, by omega⟩ (wk_gcl [0, 9] (gcOk_of (by decide) (by simp; exact .inr (ren_gB (fun _ => rfl) _).symm)) (by simp [hra, lastD])) ?_
      rintro ⟨j, hj⟩
      by_cases hjl : j < W.length
      · obtain ⟨k, hk⟩ : ∃ k, W[j]? = some k := ⟨W[j], List.getElem?_eq_getElem hjl⟩
        obtain ⟨hki, hka⟩ := hws j k hk
        obtain ⟨id, off, cap, cs, rfl, hcap, hc, hx⟩ := ha.at (i := k) (by omega)
        have row : ((W.flatMap (tk i s)).drop (j * 4)).take 4 = [.int .i64 k, .int .i64 (pos i 1 k s : Nat), .int .i64 0, .int .i64 0] := flat_at (enc := tk i s) (fun _ => rfl) hk
        have rlt := flat_lt (enc := tk i s) (es := 4) (fun _ => rfl) hjl
        have hp : pos i 1 k (s + 1) < i := pos_lt hki
        have hp0 : pos i 1 k s < i := pos_lt hki
        have hkl : k < l.length := by omega
        have hpl : pos i 1 k (s + 1) < l.length := by omega
        have hcL := fun L => lowc_of hc L
        have hxk := hx _ _ (val_at (l := l) (i := k) (by omega))
        have hxp := hx _ _ (val_at (l := l) (i := pos i 1 k (s + 1)) (by omega))
        have wj := wrapS j (by omega)
        have w1 : IntKind.i64.wrap ((S l s : Nat) + (j : Int) + 1) = ((S l s + (j + 1) : Nat) : Int) := by rw [wrap_in _ (by omega) (by omega)]; omega
        have w2 : (IntKind.i64.wrap (((pos i 1 k s : Nat) : Int) + 1)).tmod i = (pos i 1 k (s + 1) : Nat) := by
          rw [wrapS _ (by omega), ← Int.ofNat_tmod, pos_succ]
        have hi0 : ¬i = 0 := by omega
        have hct : W.take (j + 1) = W.take j ++ [k] := take_snoc hk
        have hlen : ((W.take j).filter fun k => alive l 1 k (s + 1)).length ≤ 30 := Nat.le_trans (List.length_filter_le _ _) (by have := List.length_take_le' j W; omega)
        rw [hn] at hcap
        (repeat' (first | refine awp_seq ?_ | (refine awp_region tabOk ?_; simp [hjl, hV, hB, row, rlt, w1, w2, hi0]) | (refine awp_if ?_; simp [hjl, hV, hB, row, rlt, w1, w2, hi0]) | refine awp_block ?_ | refine And.intro ?_ ?_ | intro _ | (refine awp_skip ?_; simp [hjl, hV, hB, row, rlt, w1, w2, hi0]) | (refine awp_ret ?_; simp [hjl, hV, hB, row, rlt, w1, w2, hi0]) | (refine awp_exit ?_; simp [hjl, hV, hB, row, rlt, w1, w2, hi0])))
        · simpa using rlt
        · rename_i hpk
          have hpk : pos i 1 k (s + 1) = k := by omega
          have hsi2 : s + 1 = i := (pos_one hki (by omega) (by omega)).1 hpk
          have hfs : (W.take (j + 1)).filter (fun k => alive l 1 k (s + 1)) = (W.take j).filter fun k => alive l 1 k (s + 1) := by
            have : alive l 1 k (s + 1) = false := by rw [hsi2, ← hn]; exact alive_n (by omega)
            rw [hct, List.filter_append]; simp [this]
          refine ⟨j + 1, by omega, by omega, ?_⟩
          rw [hfs, hct, lastD_snoc]
          exact wk_gcl [0, 1] (gcOk_of (by decide) (by simp [hB, ren_flat (enc := tk i s) (fun _ => rfl)]; exact .inr (ren_gB (fun _ => rfl) _).symm)) (by simp [hV, hra, hsi2, wj])
        · rename_i hpk
          have hpk2 : ¬pos i 1 k (s + 1) = k := by omega
          have hsi2 : ¬s + 1 = i := fun e => hpk2 ((pos_one hki (by omega) (by omega)).2 e)
          have hne : ¬val l k = val l (pos i 1 k (s + 1)) := fun e => hpk2 (val_inj hR.nd (by omega) (by omega) e).symm
          refine awp_draw tabOk mixed [] (by kernel_rfl) ?_
          by_cases hv : val l (pos i 1 k (s + 1)) < val l k
          · have hal : alive l 1 k (s + 1) = true := by
              simp only [alive, hka, stop, hn, decide_eq_false hpk2, Bool.false_or, Bool.true_and]
              rw [decide_eq_false (by omega)]; rfl
            have hfs : (W.take (j + 1)).filter (fun k => alive l 1 k (s + 1)) = ((W.take j).filter fun k => alive l 1 k (s + 1)) ++ [k] := by
              rw [hct, List.filter_append]; simp [hal]
            simp [hkl, hpl, hcL, hxk, hxp, hv]
            generalize ((W.take j).filter fun k => alive l 1 k (s + 1)) = X at *
            by_cases hX : X = []
            · subst hX
              (repeat' (first | refine awp_seq ?_ | (refine awp_region tabOk ?_; simp [hkl, hpl, hcL, hxk, hxp, hv, maxLen]) | (refine awp_if ?_; simp [hkl, hpl, hcL, hxk, hxp, hv, maxLen]) | refine awp_block ?_ | refine And.intro ?_ ?_ | intro _ | (refine awp_skip ?_; simp [hkl, hpl, hcL, hxk, hxp, hv, maxLen]) | (refine awp_ret ?_; simp [hkl, hpl, hcL, hxk, hxp, hv, maxLen]) | (refine awp_exit ?_; simp [hkl, hpl, hcL, hxk, hxp, hv, maxLen])))
              refine ⟨j + 1, by omega, by omega, ?_⟩
              rw [hfs, gB_snoc, gV_snoc]
              exact wk_gcl [0, 4] (gcOk_of (by decide) (by simp [hB, ren_flat (enc := tk i s) (fun _ => rfl), tk])) (by simp [hV, hra, hsi2, wj])
            · have hXl : 0 < X.length := List.length_pos_iff.2 hX
              have hV2 := gV_ne (es := 4) (id := H.length + 1) (xs := X) (by omega)
              have hB2 := gB_ne (enc := tk i (s + 1)) (xs := X) (by omega)
              have hF := flat_len (enc := tk i (s + 1)) (es := 4) (fun _ => rfl) X
              have hA : (X.flatMap (tk i (s + 1))).take (X.length * 4) = X.flatMap (tk i (s + 1)) := List.take_of_length_le (by rw [hF]; exact Nat.le_refl _)
              have hN := ren_flat (enc := tk i (s + 1)) (m := mStd H.length [0, 4] (H.length + 5)) (fun _ => rfl) X
              have hs2 := gB_snoc (enc := tk i (s + 1)) X k
              generalize X.flatMap (tk i (s + 1)) = F at *
              (repeat' (first | refine awp_seq ?_ | (refine awp_region tabOk ?_; simp [hkl, hpl, hcL, hxk, hxp, hv, hV2, hB2, hF, hA, maxLen]) | (refine awp_if ?_; simp [hkl, hpl, hcL, hxk, hxp, hv, hV2, hB2, hF, hA, maxLen]) | refine awp_block ?_ | refine And.intro ?_ ?_ | intro _ | (refine awp_skip ?_; simp [hkl, hpl, hcL, hxk, hxp, hv, hV2, hB2, hF, hA, maxLen]) | (refine awp_ret ?_; simp [hkl, hpl, hcL, hxk, hxp, hv, hV2, hB2, hF, hA, maxLen]) | (refine awp_exit ?_; simp [hkl, hpl, hcL, hxk, hxp, hv, hV2, hB2, hF, hA, maxLen])))
              · omega
              · omega
              refine ⟨j + 1, by omega, by omega, ?_⟩
              rw [hfs, hs2, gV_snoc]
              exact wk_gcl [0, 4] (gcOk_of (by decide) (by simp [hB, ren_flat (enc := tk i s) (fun _ => rfl), hN, tk])) (by simp [hV, hra, hsi2, wj])
          · have hal : alive l 1 k (s + 1) = false := by
              have : stop l 1 k (s + 1) = true := by unfold stop; rw [hn, decide_eq_true (show val l k < val l (pos i 1 k (s + 1)) by omega), Bool.or_true]
              simp only [alive, this, Bool.not_true, Bool.and_false]
            have hfs : (W.take (j + 1)).filter (fun k => alive l 1 k (s + 1)) = (W.take j).filter fun k => alive l 1 k (s + 1) := by
              rw [hct, List.filter_append]; simp [hal]
            have hv' : val l k ≤ val l (pos i 1 k (s + 1)) := by omega
            simp [hkl, hpl, hcL, hxk, hxp, hv, hv']
            (repeat' (first | refine awp_seq ?_ | (refine awp_region tabOk ?_; simp [hv, hv']) | (refine awp_if ?_; simp [hv, hv']) | refine awp_block ?_ | refine And.intro ?_ ?_ | intro _ | (refine awp_skip ?_; simp [hv, hv']) | (refine awp_ret ?_; simp [hv, hv']) | (refine awp_exit ?_; simp [hv, hv'])))
            refine ⟨j + 1, by omega, by omega, ?_⟩
            rw [hfs]
            exact wk_gcl [0, 1] (gcOk_of (by decide) (by simp [hB, ren_flat (enc := tk i s) (fun _ => rfl)]; exact .inr (ren_gB (fun _ => rfl) _).symm)) (by simp [hV, hra, hsi2, wj])
      · obtain rfl : j = W.length := by omega
        have hnx2 : W.filter (fun k => alive l 1 k (s + 1)) = (List.range i).filter fun k => alive l 1 k (s + 1) := hnx
        (repeat' (first | refine awp_seq ?_ | (refine awp_region tabOk ?_; simp) | (refine awp_if ?_; simp) | refine awp_block ?_ | refine And.intro ?_ ?_ | intro _ | (refine awp_skip ?_; simp) | (refine awp_ret ?_; simp) | (refine awp_exit ?_; simp)))
        refine ⟨s + 1, by omega, by omega, ?_⟩
        rw [hnx2, hSs]
        have e2 : (if s + 1 = i then lastD W (-1) else -1) = (if s + 1 = i then lead l else -1) := by
          split
          · rename_i h; exact hlead h
          · rfl
        exact wk_gcl [1] (gcOk_of (by decide) (by simp; exact .inr (ren_gB (fun _ => rfl) _).symm)) (by simp [hra, e2])
end Go.Proofs.Ytdeockoaalpcjaa
