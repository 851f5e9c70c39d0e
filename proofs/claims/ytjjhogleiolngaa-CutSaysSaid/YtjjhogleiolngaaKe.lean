/- Cuts: partref.inCut, cutOf, Grow, Shrink. -/
import Derived.Test.YtjjhogleiolngaaKd
import Derived.Test.YtjjhogleiolngaaVi
namespace Go.Proofs.Ytjjhogleiolngaa
set_option linter.unusedSimpArgs false
set_option linter.unusedVariables false
open Go.RowKit
attribute [local irreducible] AWP ACalls Wk GcTo
attribute [local simp] tab3 ti3 tab4 ti4 tab23 ti23 tab24 ti24 tab135 ti135 tab80 ti80 tab82 ti82
open Hi Ct
def inc (h : List Ev) (c : Nat → Int) (i : Nat) : Bool := decide ((rk (eP h) i : Int) < c (eP h i))
def incU (h : List Ev) (c : Nat → Int) (i j : Nat) : Bool := if j < i then inc h c j else false
theorem incU_step (h : List Ev) (c : Nat → Int) (i : Nat) : (fun j => if j = i then inc h c i else incU h c i j) = incU h c (i + 1) := by
  funext j; unfold incU
  by_cases e : j = i
  · subst e; simp
  · by_cases hl : j < i
    · simp [e, hl, show j < i + 1 by omega]
    · simp [e, hl, show ¬j < i + 1 by omega]
theorem incU_0 (h : List Ev) (c : Nat → Int) : incU h c 0 = fun _ => false := by funext j; simp [incU]
theorem incU_n (h : List Ev) (c : Nat → Int) : fnB h.length (incU h c h.length) = fnB h.length (inc h c) := fnB_ext fun j hj => by simp [incU, hj]
set_option maxRecDepth 100000 in
set_option maxHeartbeats 1000000 in
theorem inCut {H : List Blk} {a : Sc} {h : List Ev} {c : Nat → Int} {Q : AV → List Blk → Prop} (ha : ESl H a h) (hR : Right h) (q : Q (.c (.sc (.sl H.length 0 1 h.length h.length))) (H ++ [.own (fnB h.length (inc h c))])) :
    ACalls Try.prog 100 [.sc a, .agg (Mt.vs c)] H Q := by
  refine acalls_of tabOk Try.func100 (by kernel_rfl) rfl (by kernel_rfl) ?_
  have la := ha.len (i := ti24) (e := 135) rfl
  have hra := ha.ren
  have hl := hR.len
  simp only [ti24] at la
  have hn1 : (h.length : Int) ≤ 9223372036854775807 := by omega
  have hn2 : (h.length : Int) ≤ 281474976710656 := by omega
  (repeat' (first | refine awp_seq ?_ | (refine awp_region tabOk ?_; simp [-lenC, la, hn1, hn2]) | (refine awp_if ?_; simp [-lenC, la, hn1, hn2]) | refine awp_block ?_ | refine And.intro ?_ ?_ | intro _ | (refine awp_skip ?_; simp [-lenC, la, hn1, hn2]) | (refine awp_ret ?_; simp [-lenC, la, hn1, hn2]) | (refine awp_exit ?_; simp [-lenC, la, hn1, hn2])))
  refine awp_loop_at (α := {i : Nat // i ≤ h.length}) (fun i => [(3, .c (.sc (.ptr H.length 0))), (5, .c (.sc (.sl (H.length + 1) 0 1 h.length h.length))), (6, .c (.sc (.ptr (H.length + 2) 0))), (12, .c (.sc a)), (13, .c (.sc (.int .i64 h.length))), (14, .c (.sc (.int .i64 i.1)))])
    (fun i => H ++ [.own (Mt.vs c), .own (fnB h.length (incU h c i.1)), .own (Mt.vs (szV h i.1))]) (fun i => h.length - i.1) ⟨0, by omega⟩ (wk_tlE (by rw [szV_0, incU_0]; simp; rfl) (by simp)) ?_
  rintro ⟨i, hi⟩
  by_cases hlt : i < h.length
  · obtain ⟨x, hx⟩ := at_lt hlt
    obtain ⟨id, off, cap, cs, rfl, hcap, hc, hrow⟩ := ha.row hlt
    obtain ⟨r1, r2⟩ := hrow i x hx
    have hc2 := fun L => lowc_of hc L
    have hid : ∀ ks top, mStd H.length ks top id = id := fun ks top => mStd_low (cells_lt hc)
    have wr := wrapS i (by omega)
    have hb := (hR.ev i x hx).1
    have hP := eP_at hx
    rw [enc_def] at r1
    obtain ⟨p, k, m⟩ := x
    obtain ⟨b1, b2, b3, b4⟩ := hb
    simp only at b1 b2 hP r1
    obtain ⟨p, rfl⟩ := Int.eq_ofNat_of_zero_le b1
    rw [Int.toNat_natCast] at hP
    have hp6 : p < 6 := by omega
    have hp6' : (p : Int) < 6 := by omega
    have hp5 : p ≤ 5 := by omega
    have a1 := Mt.vs_at (szV h i) hp6
    obtain ⟨_, a1'⟩ := List.getElem?_eq_some_iff.1 a1
    have a2 := Mt.vs_at (szV h (i + 1)) hp6
    obtain ⟨_, a2'⟩ := List.getElem?_eq_some_iff.1 a2
    have a3 := Mt.vs_at c hp6
    obtain ⟨_, a3'⟩ := List.getElem?_eq_some_iff.1 a3
    have hsz := szV_le h i p
    have wp : IntKind.i64.wrap (szV h i p + 1) = szV h i p + 1 := wrap_in _ (by omega) (by omega)
    have st := szV_step hp6 hP
    have hs1 : szV h (i + 1) p = szV h i p + 1 := by unfold szV; rw [evs_succ, if_pos hP]; simp
    have hrk : (rk (eP h) i : Int) = szV h i p := by unfold rk szV; rw [hP]
    have hin : decide (szV h i p + 1 ≤ c p) = inc h c i := by unfold inc; rw [hP, hrk, decide_eq_decide]; omega
    have st2 := fnB_set (n := h.length) (incU h c i) hlt (inc h c i)
    rw [incU_step] at st2
    have hlt' : (i : Int) < h.length := by omega
    have hi1 : i + 1 ≤ h.length := hlt
    rw [hs1] at a2 a2'
    (repeat' (first | refine awp_seq ?_ | (refine awp_region tabOk ?_; simp [hlt, hc, hc2, r1, r2, hp6, hp6', hp5, a1, a1', wp, st]) | (refine awp_if ?_; simp [hlt, hc, hc2, r1, r2, hp6, hp6', hp5, a1, a1', wp, st]) | refine awp_block ?_ | refine And.intro ?_ ?_ | intro _ | (refine awp_skip ?_; simp [hlt, hc, hc2, r1, r2, hp6, hp6', hp5, a1, a1', wp, st]) | (refine awp_ret ?_; simp [hlt, hc, hc2, r1, r2, hp6, hp6', hp5, a1, a1', wp, st]) | (refine awp_exit ?_; simp [hlt, hc, hc2, r1, r2, hp6, hp6', hp5, a1, a1', wp, st])))
    refine awp_draw tabOk mixed [] (by kernel_rfl) ?_
    simp [hlt, hlt', hi1, hp6, hp6', a2, a2', a3, a3', hin, st2]
    (repeat' (first | refine awp_seq ?_ | (refine awp_region tabOk ?_; simp [wr]) | (refine awp_if ?_; simp [wr]) | refine awp_block ?_ | refine And.intro ?_ ?_ | intro _ | (refine awp_skip ?_; simp [wr]) | (refine awp_ret ?_; simp [wr]) | (refine awp_exit ?_; simp [wr])))
    exact ⟨i + 1, by omega, by omega, wk_gcl [0, 1, 2] (gcOk_of (by decide) (by simp)) (by simp [hid, wr])⟩
  · obtain rfl : i = h.length := by omega
    rw [incU_n]
    (repeat' (first | refine awp_seq ?_ | (refine awp_region tabOk ?_; simp [hlt]) | (refine awp_if ?_; simp [hlt]) | refine awp_block ?_ | refine And.intro ?_ ?_ | intro _ | (refine awp_skip ?_; simp [hlt]) | (refine awp_ret ?_; simp [hlt]) | (refine awp_exit ?_; simp [hlt])))
    exact ⟨H ++ [.own (fnB h.length (inc h c))], .c (.sc (.sl H.length 0 1 h.length h.length)), gcTo_std [1] (gcOk_of (by decide) (by simp)) (by simp), q⟩
set_option maxRecDepth 100000 in
theorem cloneBools {H : List Blk} {id n : Nat} {f : Nat → Bool} {Q : AV → List Blk → Prop} (hc : Blk.cells? H[id]? = some (fnB n f)) (hn : n < 1000000) (q0 : n = 0 → Q (.c (.sc .sle)) H) (q1 : n ≠ 0 → Q (.c (.sc (.sl H.length 0 1 n n))) (H ++ [.own (fnB n f)])) :
    ACalls Try.prog 101 [.sc (.sl id 0 1 n n)] H Q := by
  refine acalls_of tabOk Try.func101 (by kernel_rfl) rfl (by kernel_rfl) ?_
  have h1 : n ≤ 9223372036854775807 := by omega
  have h2 : n ≤ 140737488355328 := by omega
  by_cases h0 : n = 0
  · have q := q0 h0
    subst h0
    (repeat' (first | refine awp_seq ?_ | (refine awp_region tabOk ?_; simp [hc, maxLen]) | (refine awp_if ?_; simp [hc, maxLen]) | refine awp_block ?_ | refine And.intro ?_ ?_ | intro _ | (refine awp_skip ?_; simp [hc, maxLen]) | (refine awp_ret ?_; simp [hc, maxLen]) | (refine awp_exit ?_; simp [hc, maxLen])))
    exact ⟨H, _, GcTo.refl (Nat.le_refl _), q⟩
  · have q := q1 h0
    (repeat' (first | refine awp_seq ?_ | (refine awp_region tabOk ?_; simp [hc, maxLen, h0, h1, h2]) | (refine awp_if ?_; simp [hc, maxLen, h0, h1, h2]) | refine awp_block ?_ | refine And.intro ?_ ?_ | intro _ | (refine awp_skip ?_; simp [hc, maxLen, h0, h1, h2]) | (refine awp_ret ?_; simp [hc, maxLen, h0, h1, h2]) | (refine awp_exit ?_; simp [hc, maxLen, h0, h1, h2])))
    exact ⟨_, _, GcTo.refl (by simp), q⟩
/-- How many of the first i are in, of process q. -/
def cb (h : List Ev) (f : Nat → Bool) (i : Nat) (q : Nat) : Int := ((List.range i).countP fun j => f j && decide (eP h j = q) : Nat)
theorem cb_0 (h : List Ev) (f : Nat → Bool) : cb h f 0 = fun _ => 0 := by funext q; rfl
theorem cb_le (h : List Ev) (f : Nat → Bool) (i q : Nat) : 0 ≤ cb h f i q ∧ cb h f i q ≤ i := by
  have := List.countP_le_length (p := fun j => f j && decide (eP h j = q)) (l := List.range i)
  rw [List.length_range] at this
  unfold cb; omega
theorem cb_succ (h : List Ev) (f : Nat → Bool) (i q : Nat) : cb h f (i + 1) q = cb h f i q + if f i && decide (eP h i = q) then 1 else 0 := by
  unfold cb; rw [List.range_succ, List.countP_append, List.countP_singleton]; push_cast; congr 1; split <;> rfl
theorem cb_yes {h : List Ev} {f : Nat → Bool} {i p : Nat} (hf : f i = true) (hp : p < 6) (e : eP h i = p) : (Mt.vs (cb h f i)).set p (.int .i64 (cb h f i p + 1)) = Mt.vs (cb h f (i + 1)) := by
  rw [Mt.vs_set _ hp]
  refine Mt.vs_ext fun j _ => ?_
  rw [cb_succ, hf, e]
  by_cases hj : j = p
  · subst hj; simp
  · have hj' : ¬p = j := fun e => hj e.symm
    simp [hj, hj']
theorem cb_no {h : List Ev} {f : Nat → Bool} {i : Nat} (hf : f i = false) : cb h f (i + 1) = cb h f i := by
  funext q; rw [cb_succ, hf]; simp
set_option maxRecDepth 100000 in
set_option maxHeartbeats 1000000 in
theorem cutOf {H : List Blk} {a b : Sc} {h : List Ev} {f : Nat → Bool} {Q : AV → List Blk → Prop} (ha : ESl H a h) (hR : Right h) (hb : h.length = 0 ∨ ∃ id, b = .sl id 0 1 h.length h.length ∧ Blk.cells? H[id]? = some (fnB h.length f))
    (q : Q (.c (.agg (Mt.vs (cb h f h.length)))) H) :
    ACalls Try.prog 102 [.sc a, .sc b] H Q := by
  refine acalls_of tabOk Try.func102 (by kernel_rfl) rfl (by kernel_rfl) ?_
  have la := ha.len (i := ti24) (e := 135) rfl
  have hra := ha.ren
  have hl := hR.len
  have vs_ov := fun g : Nat → Int => splice_all (xs := Mt.vs g) (ys := [.int .i64 0, .int .i64 0, .int .i64 0, .int .i64 0, .int .i64 0, .int .i64 0]) rfl
  simp only [ti24] at la
  by_cases hn0 : h.length = 0
  · have e0 : cb h f h.length = fun _ => 0 := by rw [hn0]; rfl
    rw [hn0] at la
    rw [e0] at q
    (repeat' (first | refine awp_seq ?_ | (refine awp_region tabOk ?_; simp [-lenC, la]) | (refine awp_if ?_; simp [-lenC, la]) | refine awp_block ?_ | refine And.intro ?_ ?_ | intro _ | (refine awp_skip ?_; simp [-lenC, la]) | (refine awp_ret ?_; simp [-lenC, la]) | (refine awp_exit ?_; simp [-lenC, la])))
    refine awp_loop_at (α := Unit) (fun _ => [(4, .c (.sc (.ptr H.length 0))), (5, .c (.sc (.ptr (H.length + 1) 0))), (9, .c (.sc (.int .i64 0))), (10, .c (.sc (.int .i64 0)))])
      (fun _ => H ++ [.own [.int .i64 0, .int .i64 0, .int .i64 0, .int .i64 0, .int .i64 0, .int .i64 0], .own (Mt.vs fun _ => 0)]) (fun _ => 0) () (wk_tlE (by simp; rfl) (by simp)) ?_
    intro _
    (repeat' (first | refine awp_seq ?_ | (refine awp_region tabOk ?_; simp [vs_ov]) | (refine awp_if ?_; simp [vs_ov]) | refine awp_block ?_ | refine And.intro ?_ ?_ | intro _ | (refine awp_skip ?_; simp [vs_ov]) | (refine awp_ret ?_; simp [vs_ov]) | (refine awp_exit ?_; simp [vs_ov])))
    exact ⟨H, _, gcTo_none (fun _ => rfl), q⟩
  have hb' := hb.resolve_left hn0
  obtain ⟨bid, rfl, hbc⟩ := hb'
  have hbL := fun L => lowc_of hbc L
  have hbid : ∀ ks top, mStd H.length ks top bid = bid := fun ks top => mStd_low (cells_lt hbc)
  (repeat' (first | refine awp_seq ?_ | (refine awp_region tabOk ?_; simp [-lenC, la]) | (refine awp_if ?_; simp [-lenC, la]) | refine awp_block ?_ | refine And.intro ?_ ?_ | intro _ | (refine awp_skip ?_; simp [-lenC, la]) | (refine awp_ret ?_; simp [-lenC, la]) | (refine awp_exit ?_; simp [-lenC, la])))
  refine awp_loop_at (α := {i : Nat // i ≤ h.length}) (fun i => [(1, .c (.sc (.sl bid 0 1 h.length h.length))), (4, .c (.sc (.ptr H.length 0))), (5, .c (.sc (.ptr (H.length + 1) 0))), (8, .c (.sc a)), (9, .c (.sc (.int .i64 h.length))), (10, .c (.sc (.int .i64 i.1)))])
    (fun i => H ++ [.own [.int .i64 0, .int .i64 0, .int .i64 0, .int .i64 0, .int .i64 0, .int .i64 0], .own (Mt.vs (cb h f i.1))]) (fun i => h.length - i.1) ⟨0, by omega⟩ (wk_tlE (by rw [cb_0]; simp; rfl) (by simp)) ?_
  rintro ⟨i, hi⟩
  by_cases hlt : i < h.length
  · obtain ⟨x, hx⟩ := at_lt hlt
    obtain ⟨id, off, cap, cs, rfl, hcap, hc, hrow⟩ := ha.row hlt
    obtain ⟨r1, r2⟩ := hrow i x hx
    have hc2 := fun L => lowc_of hc L
    have hid : ∀ ks top, mStd H.length ks top id = id := fun ks top => mStd_low (cells_lt hc)
    have wr := wrapS i (by omega)
    have hb := (hR.ev i x hx).1
    have hP := eP_at hx
    rw [enc_def] at r1
    obtain ⟨p, k, m⟩ := x
    obtain ⟨b1, b2, b3, b4⟩ := hb
    simp only at b1 b2 hP r1
    obtain ⟨p, rfl⟩ := Int.eq_ofNat_of_zero_le b1
    rw [Int.toNat_natCast] at hP
    have hp6 : p < 6 := by omega
    have hp6' : (p : Int) < 6 := by omega
    have hp5 : p ≤ 5 := by omega
    have a1 := Mt.vs_at (cb h f i) hp6
    obtain ⟨_, a1'⟩ := List.getElem?_eq_some_iff.1 a1
    have hsz := cb_le h f i p
    have wp : IntKind.i64.wrap (cb h f i p + 1) = cb h f i p + 1 := wrap_in _ (by omega) (by omega)
    have f1 := fnB_at f hlt
    cases hf : f i with
    | true =>
      have st := cb_yes hf hp6 hP
      (repeat' (first | refine awp_seq ?_ | (refine awp_region tabOk ?_; simp [hlt, hc, hc2, hbL, f1, hf, r1, r2, hp6, hp6', hp5, a1, a1', wp, st, wr]) | (refine awp_if ?_; simp [hlt, hc, hc2, hbL, f1, hf, r1, r2, hp6, hp6', hp5, a1, a1', wp, st, wr]) | refine awp_block ?_ | refine And.intro ?_ ?_ | intro _ | (refine awp_skip ?_; simp [hlt, hc, hc2, hbL, f1, hf, r1, r2, hp6, hp6', hp5, a1, a1', wp, st, wr]) | (refine awp_ret ?_; simp [hlt, hc, hc2, hbL, f1, hf, r1, r2, hp6, hp6', hp5, a1, a1', wp, st, wr]) | (refine awp_exit ?_; simp [hlt, hc, hc2, hbL, f1, hf, r1, r2, hp6, hp6', hp5, a1, a1', wp, st, wr])))
      exact ⟨i + 1, by omega, by omega, wk_gcl [0, 1] (gcOk_of (by decide) (by simp)) (by simp [hid, hbid, wr])⟩
    | false =>
      have st := cb_no (h := h) hf
      (repeat' (first | refine awp_seq ?_ | (refine awp_region tabOk ?_; simp [hlt, hc, hc2, hbL, f1, hf, r1, r2, hp6, hp6', hp5, a1, a1', wp, wr]) | (refine awp_if ?_; simp [hlt, hc, hc2, hbL, f1, hf, r1, r2, hp6, hp6', hp5, a1, a1', wp, wr]) | refine awp_block ?_ | refine And.intro ?_ ?_ | intro _ | (refine awp_skip ?_; simp [hlt, hc, hc2, hbL, f1, hf, r1, r2, hp6, hp6', hp5, a1, a1', wp, wr]) | (refine awp_ret ?_; simp [hlt, hc, hc2, hbL, f1, hf, r1, r2, hp6, hp6', hp5, a1, a1', wp, wr]) | (refine awp_exit ?_; simp [hlt, hc, hc2, hbL, f1, hf, r1, r2, hp6, hp6', hp5, a1, a1', wp, wr])))
      exact ⟨i + 1, by omega, by omega, wk_gcl [0, 1] (gcOk_of (by decide) (by simp [st])) (by simp [hid, hbid, wr])⟩
  · obtain rfl : i = h.length := by omega
    (repeat' (first | refine awp_seq ?_ | (refine awp_region tabOk ?_; simp [hlt, vs_ov]) | (refine awp_if ?_; simp [hlt, vs_ov]) | refine awp_block ?_ | refine And.intro ?_ ?_ | intro _ | (refine awp_skip ?_; simp [hlt, vs_ov]) | (refine awp_ret ?_; simp [hlt, vs_ov]) | (refine awp_exit ?_; simp [hlt, vs_ov])))
    exact ⟨H, _, gcTo_none (fun _ => rfl), q⟩
/-- The growing and the shrinking, step by step. -/
noncomputable def gwU (h : List Ev) (c : Nat → Int) (i : Nat) : Nat → Bool
  | 0 => inc h c i
  | k + 1 => gwU h c i k || (inc h c k && cau h i k)
noncomputable def shU (h : List Ev) (c : Nat → Int) (i : Nat) : Nat → Bool
  | 0 => inc h c i
  | k + 1 => shU h c i k && (inc h c k || !cau h k i)
def tri (n : Nat) (g : Nat → Nat → Bool) (i k j : Nat) : Bool := if j < i then g j n else if j = i then g j k else g j 0
theorem tri_at (n : Nat) (g : Nat → Nat → Bool) (i k : Nat) : tri n g i k i = g i k := by simp [tri]
theorem tri_step (n : Nat) (g : Nat → Nat → Bool) (i k : Nat) : (fun j => if j = i then g i (k + 1) else tri n g i k j) = tri n g i (k + 1) := by
  funext j; unfold tri
  by_cases e : j = i
  · subst e; simp
  · simp [e]
theorem tri_next (n : Nat) (g : Nat → Nat → Bool) (i : Nat) : tri n g i n = tri n g (i + 1) 0 := by
  funext j; unfold tri
  by_cases h1 : j < i
  · rw [if_pos h1, if_pos (by omega)]
  · rw [if_neg h1]
    by_cases h2 : j = i
    · rw [if_pos h2, if_pos (by omega)]
    · rw [if_neg h2, if_neg (by omega)]; split <;> rfl
theorem tri_fin (n : Nat) (g : Nat → Nat → Bool) : fnB n (tri n g n 0) = fnB n (fun j => g j n) := fnB_ext fun j hj => by simp [tri, hj]
theorem tri_zero (n : Nat) (g : Nat → Nat → Bool) : fnB n (tri n g 0 0) = fnB n (fun j => g j 0) := fnB_ext fun j hj => by simp [tri]
theorem gwU_iff (h : List Ev) (c : Nat → Int) (i : Nat) : ∀ n, gwU h c i n = true ↔ (inc h c i = true ∨ ∃ k, k < n ∧ inc h c k = true ∧ cau h i k = true)
  | 0 => by simp [gwU]
  | n + 1 => by
    simp only [gwU, Bool.or_eq_true, Bool.and_eq_true, gwU_iff h c i n]
    constructor
    · rintro ((a | ⟨k, k1, k2⟩) | a)
      · exact .inl a
      · exact .inr ⟨k, by omega, k2⟩
      · exact .inr ⟨n, by omega, a⟩
    · rintro (a | ⟨k, k1, k2⟩)
      · exact .inl (.inl a)
      · by_cases e : k = n
        · subst e; exact .inr k2
        · exact .inl (.inr ⟨k, by omega, k2⟩)
theorem shU_iff (h : List Ev) (c : Nat → Int) (i : Nat) : ∀ n, shU h c i n = true ↔ (inc h c i = true ∧ ∀ k, k < n → cau h k i = true → inc h c k = true)
  | 0 => by simp [shU]
  | n + 1 => by
    simp only [shU, Bool.and_eq_true, Bool.or_eq_true, Bool.not_eq_true', shU_iff h c i n]
    constructor
    · rintro ⟨⟨a, b⟩, d⟩
      refine ⟨a, fun k hk hc => ?_⟩
      by_cases e : k = n
      · subst e; rcases d with d | d
        · exact d
        · rw [hc] at d; cases d
      · exact b k (by omega) hc
    · rintro ⟨a, b⟩
      refine ⟨⟨a, fun k hk => b k (by omega)⟩, ?_⟩
      cases e : cau h n i with
      | true => exact .inl (b n (by omega) e)
      | false => exact .inr rfl
open Classical in
theorem cb_cnt {h : List Ev} {f : Nat → Bool} {S : Nat → Prop} (e : ∀ i, i < h.length → (f i = true ↔ S i)) (q : Nat) : cb h f h.length q = (Vc.cnt h.length (eP h) S q : Int) := by
  unfold cb Vc.cnt
  congr 1
  apply List.countP_congr
  intro i hi
  have hi := List.mem_range.1 hi
  refine ⟨fun hh => decide_eq_true ?_, fun hh => ?_⟩
  · rw [Bool.and_eq_true, decide_eq_true_eq] at hh
    exact ⟨(e i hi).1 hh.1, hh.2⟩
  · have := of_decide_eq_true hh
    rw [Bool.and_eq_true, decide_eq_true_eq]
    exact ⟨(e i hi).2 this.1, this.2⟩
open Classical in
theorem cau_iff (h : List Ev) (x y : Nat) : cau h x y = true ↔ Relation.TransGen (DD h) x y := by unfold cau; exact decide_eq_true_iff
theorem gw_gr {h : List Ev} {c : Nat → Int} (hC : CutR h c) : Mt.vs (cb h (fun j => gwU h c j h.length) h.length) = Mt.vs (grV h c 6) := by
  have hR := hC.right
  refine Mt.vs_ext fun q hq => ?_
  rw [cb_cnt (S := U h.length (eP h) (eM h) (eK h) c 6) (fun i hi => ?_) q]
  · exact (gr_cnt hR.uniq hR.send hC.c0 (fun q hq => hC.cl q) 6 (Nat.le_refl _) q hq).symm
  · rw [gwU_iff]
    unfold U inn
    constructor
    · rintro (a | ⟨k, k1, k2, k3⟩)
      · exact .inl (of_decide_eq_true a)
      · exact .inr ⟨k, k1, Right.p6 hR k1, of_decide_eq_true k2, (cau_iff h i k).1 k3⟩
    · rintro (a | ⟨k, k1, _, k2, k3⟩)
      · exact .inl (decide_eq_true a)
      · exact .inr ⟨k, k1, decide_eq_true k2, (cau_iff h i k).2 k3⟩
theorem sh_gd {h : List Ev} {c : Nat → Int} : Mt.vs (cb h (fun j => shU h c j h.length) h.length) = Mt.vs (shV h c) := by
  refine Mt.vs_ext fun q hq => ?_
  unfold shV
  refine cb_cnt (fun i hi => ?_) q
  rw [shU_iff]
  unfold gd good Vc.R inn
  constructor
  · rintro ⟨a, b⟩ k hk (e | t)
    · subst e; exact of_decide_eq_true a
    · exact of_decide_eq_true (b k hk ((cau_iff h k i).2 t))
  · intro g
    exact ⟨decide_eq_true (g i hi (.inl rfl)), fun k hk hc => decide_eq_true (g k hk (.inr ((cau_iff h k i).1 hc)))⟩
end Go.Proofs.Ytjjhogleiolngaa
