/- TopLattice: the walk and the law -/
import Derived.Test.YtjjhogleiolngaaKc
import Derived.Test.YtjjhogleiolngaaVe
import Derived.Test.YtjjhogleiolngaaLf
import Derived.Test.YtjjhogleiolngaaN2
import Derived.Test.YtjjhogleiolngaaS1
import Derived.Test.YtjjhogleiolngaaLa
import Derived.Test.YtjjhogleiolngaaVh
/-! Kz -/
namespace Go.Proofs.Ytjjhogleiolngaa
open Go.RowKit
open Hi Ct
def inc (h : List Ev) (c : Nat → Int) (i : Nat) : Bool := decide ((rk (eP h) i : Int) < c (eP h i))
def cb (h : List Ev) (f : Nat → Bool) (i : Nat) (q : Nat) : Int := ((List.range i).countP fun j => f j && decide (eP h j = q) : Nat)
noncomputable def gwU (h : List Ev) (c : Nat → Int) (i : Nat) : Nat → Bool
  | 0 => inc h c i
  | k + 1 => gwU h c i k || (inc h c k && cau h i k)
theorem gwU_iff (h : List Ev) (c : Nat → Int) (i : Nat) : ∀ n, gwU h c i n = true ↔ (inc h c i = true ∨ ∃ k, k < n ∧ inc h c k = true ∧ cau h i k = true)
  | 0 => by simp [gwU]
  | n + 1 => by
    simp only [gwU, Bool.or_eq_true, Bool.and_eq_true, gwU_iff h c i n]
    constructor
    · rintro ((a | ⟨k, k1, k2⟩) | a)
      · exact .inl a
      · exact .inr ⟨k, by omega, k2⟩
      · exact .inr ⟨n, by omega, a⟩
    · rintro (a | ⟨k, k1, k2⟩)
      · exact .inl (.inl a)
      · by_cases e : k = n
        · subst e; exact .inr k2
        · exact .inl (.inr ⟨k, by omega, k2⟩)
open Classical in
theorem cb_cnt {h : List Ev} {f : Nat → Bool} {S : Nat → Prop} (e : ∀ i, i < h.length → (f i = true ↔ S i)) (q : Nat) : cb h f h.length q = (Vc.cnt h.length (eP h) S q : Int) := by
  unfold cb Vc.cnt
  congr 1
  apply List.countP_congr
  intro i hi
  have hi := List.mem_range.1 hi
  refine ⟨fun hh => decide_eq_true ?_, fun hh => ?_⟩
  · rw [Bool.and_eq_true, decide_eq_true_eq] at hh
    exact ⟨(e i hi).1 hh.1, hh.2⟩
  · have := of_decide_eq_true hh
    rw [Bool.and_eq_true, decide_eq_true_eq]
    exact ⟨(e i hi).2 this.1, this.2⟩
open Classical in
theorem cau_iff (h : List Ev) (x y : Nat) : cau h x y = true ↔ Relation.TransGen (DD h) x y := by unfold cau; exact decide_eq_true_iff
theorem gw_gr {h : List Ev} {c : Nat → Int} (hC : CutR h c) : Mt.vs (cb h (fun j => gwU h c j h.length) h.length) = Mt.vs (grV h c 6) := by
  have hR := hC.right
  refine Mt.vs_ext fun q hq => ?_
  rw [cb_cnt (S := U h.length (eP h) (eM h) (eK h) c 6) (fun i hi => ?_) q]
  · exact (gr_cnt hR.uniq hR.send hC.c0 (fun q hq => hC.cl q) 6 (Nat.le_refl _) q hq).symm
  · rw [gwU_iff]
    unfold U inn
    constructor
    · rintro (a | ⟨k, k1, k2, k3⟩)
      · exact .inl (of_decide_eq_true a)
      · exact .inr ⟨k, k1, Right.p6 hR k1, of_decide_eq_true k2, (cau_iff h i k).1 k3⟩
    · rintro (a | ⟨k, k1, _, k2, k3⟩)
      · exact .inl (decide_eq_true a)
      · exact .inr ⟨k, k1, decide_eq_true k2, (cau_iff h i k).2 k3⟩
theorem wk_gclA0 {N : Nat} {H0 A K : List Blk} {T : Nat → AV} {L' : List Blk} {l : List (Nat × AV)} (hK : K = H0 ++ A) (hA : ∀ b ∈ A, LowB K.length b) (ks : List Nat) (hg : GcOk K.length ks K.length [] L')
    (h : tlOkM (mStd K.length ks K.length) T l) : Wk N H0 T K (tl l) (K ++ L') := by
  have := wk_gclA (N := N) (T := T) (L := []) (L' := L') (l := l) hK hA ks (by rw [List.append_nil]; exact hg) rfl (by rw [List.append_nil]; exact h)
  rwa [List.append_nil] at this
end Go.Proofs.Ytjjhogleiolngaa
/-! Jc -/
namespace Go.Proofs.Ytjjhogleiolngaa
set_option linter.unusedSimpArgs false
set_option linter.unusedVariables false
open Go.RowKit
attribute [local irreducible] AWP ACalls Wk GcTo
attribute [local simp] tab3 ti3 tab4 ti4 tab23 ti23 tab24 ti24 tab28 ti28 tab29 ti29 tab135 ti135
open Hi
def histS (O : List Ev) (x : Ev) : List Ev := if hErr (O ++ [x]) = 0 then O ++ [x] else O
def histL (l : List Ev) : List Ev := l.foldl histS []
theorem hist_ok : ∀ (l O : List Ev), hErr O = 0 → hErr (l.foldl histS O) = 0
  | [], _, h => h
  | x :: r, O, h => by
    rw [List.foldl_cons]
    refine hist_ok r _ ?_
    unfold histS; split <;> assumption
theorem histL_ok (l : List Ev) : hErr (histL l) = 0 := hist_ok l [] rfl
theorem hist_snoc {l : List Ev} {i : Nat} {x : Ev} (hx : l[i]? = some x) : (l.take (i + 1)).foldl histS [] = histS ((l.take i).foldl histS []) x := by
  rw [take_snoc hx, List.foldl_append]; rfl
theorem eren (f : Nat → Nat) (x : Ev) : x.enc.map (renS f) = x.enc := rfl
theorem cloneNil {H : List Blk} {Q : AV → List Blk → Prop} (q : Q (.c (.sc .nils)) H) : ACalls Try.prog 103 [.sc .nils] H Q := by
  refine acalls_of tabOk Try.func103 (by kernel_rfl) rfl (by kernel_rfl) ?_
  (repeat' (first | refine awp_seq ?_ | (refine awp_region tabOk ?_; simp) | (refine awp_if ?_; simp) | refine awp_block ?_ | refine And.intro ?_ ?_ | intro _ | (refine awp_skip ?_; simp) | (refine awp_ret ?_; simp) | (refine awp_exit ?_; simp)))
  exact ⟨H, _, GcTo.refl (Nat.le_refl _), q⟩
theorem cloneOwn {H : List Blk} {id n : Nat} {cs : List Sc} {Q : AV → List Blk → Prop} (hc : Blk.cells? H[id]? = some cs) (hl : cs.length = n * 3) (h0 : n ≠ 0) (hn : n ≤ 1000) (q : Q (.c (.sc (.sl H.length 0 3 n n))) (H ++ [.own cs])) :
    ACalls Try.prog 103 [.sc (.sl id 0 3 n n)] H Q := by
  refine acalls_of tabOk Try.func103 (by kernel_rfl) rfl (by kernel_rfl) ?_
  have h1 : n ≤ 9223372036854775807 := by omega
  have h2 : n * 24 ≤ 140737488355328 := by omega
  have h3 : cs.take (n * 3) = cs := List.take_of_length_le (by omega)
  (repeat' (first | refine awp_seq ?_ | (refine awp_region tabOk ?_; simp [hc, maxLen, h0, h1, h2, hl, h3]) | (refine awp_if ?_; simp [hc, maxLen, h0, h1, h2, hl, h3]) | refine awp_block ?_ | refine And.intro ?_ ?_ | intro _ | (refine awp_skip ?_; simp [hc, maxLen, h0, h1, h2, hl, h3]) | (refine awp_ret ?_; simp [hc, maxLen, h0, h1, h2, hl, h3]) | (refine awp_exit ?_; simp [hc, maxLen, h0, h1, h2, hl, h3])))
  exact ⟨_, _, GcTo.refl (by simp), q⟩
set_option maxRecDepth 100000 in
set_option maxHeartbeats 2000000 in
theorem historyOf {H : List Blk} {a : Sc} {l : List Ev} {Q : AV → List Blk → Prop} (ha : ESl H a l) (hn : l.length ≤ 9223372036854775807)
    (q : Q (.c (.sc (gV 3 H.length (histL l)))) (H ++ [gB Ev.enc (histL l)])) :
    ACalls Try.prog 50 [.sc a] H Q := by
  refine acalls_of tabOk Try.func50 (by kernel_rfl) rfl (by kernel_rfl) ?_
  have la := ha.len (i := ti24) (e := 135) rfl
  have hra := ha.ren
  simp only [ti24] at la
  have hgr := fun (m : Nat → Nat) (l : List Ev) => ren_gB (m := m) (enc := Ev.enc) (fun x => rfl) l
  (repeat' (first | refine awp_seq ?_ | (refine awp_region tabOk ?_; simp [-lenC, la]) | (refine awp_if ?_; simp [-lenC, la]) | refine awp_block ?_ | refine And.intro ?_ ?_ | intro _ | (refine awp_skip ?_; simp [-lenC, la]) | (refine awp_ret ?_; simp [-lenC, la]) | (refine awp_exit ?_; simp [-lenC, la])))
  refine awp_loop_at (α := {s : Nat × List Ev // s.1 ≤ l.length ∧ hErr s.2 = 0 ∧ s.2 = (l.take s.1).foldl histS []}) (fun s => [(3, .c (.sc (gV 3 H.length s.1.2))), (6, .c (.sc a)), (7, .c (.sc (.int .i64 l.length))), (8, .c (.sc (.int .i64 s.1.1)))])
    (fun s => H ++ [gB Ev.enc s.1.2]) (fun s => l.length - s.1.1) ⟨(0, []), by simp, rfl, rfl⟩ (wk_gcl0 [9] (gcOk_of (by decide) (by simp)) (by simp [hra])) ?_
  rintro ⟨⟨i, O⟩, hi, hO, hOi⟩
  simp only at hi hO hOi
  by_cases hlt : i < l.length
  · obtain ⟨x, hx⟩ := at_lt hlt
    obtain ⟨id, off, cap, cs, rfl, hcap, hc, hrow⟩ := ha.row hlt
    obtain ⟨r1, r2⟩ := hrow i x hx
    have hc2 := fun L => lowc_of hc L
    have hid : ∀ ks top, mStd H.length ks top id = id := fun ks top => mStd_low (cells_lt hc)
    have wr := wrapS i (by omega)
    have hst := hist_snoc hx
    rw [← hOi] at hst
    have hlt' : (i : Int) < l.length := by omega
    have hO60 := (right_of hO).len
    rw [enc_def] at r1
    obtain ⟨p, k, m⟩ := x
    simp only at r1
    cases O with
    | nil =>
      have hgs : gB Ev.enc [⟨p, k, m⟩] = .own [.int .i64 p, .int .i64 k, .int .i64 m] := rfl
      (repeat' (first | refine awp_seq ?_ | (refine awp_region tabOk ?_; simp [-lenC, la, hlt, hlt', hc, hc2, r1, r2]) | (refine awp_if ?_; simp [-lenC, la, hlt, hlt', hc, hc2, r1, r2]) | refine awp_block ?_ | refine And.intro ?_ ?_ | intro _ | (refine awp_skip ?_; simp [-lenC, la, hlt, hlt', hc, hc2, r1, r2]) | (refine awp_ret ?_; simp [-lenC, la, hlt, hlt', hc, hc2, r1, r2]) | (refine awp_exit ?_; simp [-lenC, la, hlt, hlt', hc, hc2, r1, r2])))
      refine awp_draw tabOk mixed [] (by kernel_rfl) ?_
      simp
      refine ⟨_, [], cloneNil ⟨rfl, by simp⟩, ?_⟩
      simp [maxLen]
      refine ⟨_, [], stampCheck (xs := [⟨p, k, m⟩]) (GSl.ownC (cs := [.int .i64 p, .int .i64 k, .int .i64 m]) (xs := [⟨p, k, m⟩]) elen (by simp) (by rfl) (by simp) (by simp)) ⟨rfl, by simp⟩, ?_⟩
      by_cases hok : hErr [⟨p, k, m⟩] = 0
      · have hs : histS [] ⟨p, k, m⟩ = [⟨p, k, m⟩] := if_pos hok
        rw [hs] at hst
        simp [hok]
        (repeat' (first | refine awp_seq ?_ | (refine awp_region tabOk ?_; simp [maxLen, wr]) | (refine awp_if ?_; simp [maxLen, wr]) | refine awp_block ?_ | refine And.intro ?_ ?_ | intro _ | (refine awp_skip ?_; simp [maxLen, wr]) | (refine awp_ret ?_; simp [maxLen, wr]) | (refine awp_exit ?_; simp [maxLen, wr])))
        refine ⟨i + 1, by omega, [⟨p, k, m⟩], ⟨by omega, hok, hst.symm⟩, ?_⟩
        rw [hgs]
        exact wk_gcl [5] (gcOk_of (by decide) (by simp)) (by simp [hid, wr])
      · have hs : histS [] ⟨p, k, m⟩ = [] := if_neg hok
        rw [hs] at hst
        simp [hok]
        (repeat' (first | refine awp_seq ?_ | (refine awp_region tabOk ?_; simp [maxLen, wr]) | (refine awp_if ?_; simp [maxLen, wr]) | refine awp_block ?_ | refine And.intro ?_ ?_ | intro _ | (refine awp_skip ?_; simp [maxLen, wr]) | (refine awp_ret ?_; simp [maxLen, wr]) | (refine awp_exit ?_; simp [maxLen, wr])))
        exact ⟨i + 1, by omega, [], ⟨by omega, hO, hst.symm⟩, wk_gcl [0] (gcOk_of (by decide) (by simp)) (by simp [hid, wr])⟩
    | cons o O =>
      obtain ⟨OF, hOF, hgB, hOFl, hOFt, hOFr⟩ := gB_own elen eren o O
      rw [List.length_cons] at hO60
      have hno : ¬O.length + 1 + 1 ≤ O.length + 1 := by omega
      have hml : (O.length + 1 + 1) * 24 ≤ 140737488355328 := by omega
      have hml1 : O.length + 1 + 1 ≤ 9223372036854775807 := by omega
      have hgs := gB_snoc (enc := Ev.enc) (o :: O) ⟨p, k, m⟩
      rw [← hOF] at hgs
      (repeat' (first | refine awp_seq ?_ | (refine awp_region tabOk ?_; simp [-lenC, la, hlt, hlt', hc, hc2, r1, r2, hgB]) | (refine awp_if ?_; simp [-lenC, la, hlt, hlt', hc, hc2, r1, r2, hgB]) | refine awp_block ?_ | refine And.intro ?_ ?_ | intro _ | (refine awp_skip ?_; simp [-lenC, la, hlt, hlt', hc, hc2, r1, r2, hgB]) | (refine awp_ret ?_; simp [-lenC, la, hlt, hlt', hc, hc2, r1, r2, hgB]) | (refine awp_exit ?_; simp [-lenC, la, hlt, hlt', hc, hc2, r1, r2, hgB])))
      refine awp_draw tabOk mixed [] (by kernel_rfl) ?_
      simp
      refine ⟨_, [.own OF], cloneOwn (cs := OF) (by simp) hOFl (by omega) (by omega) ⟨rfl, by simp⟩, by simp [Blk.isOwn], ?_⟩
      simp [maxLen, hno, hml, hml1, hOFl, hOFt]
      have hxl : ((o :: O) ++ [⟨p, k, m⟩] : List Ev).length = O.length + 1 + 1 := by simp
      have hsl : ∀ (K : List Blk) (id : Nat), K[id]? = some (.own (OF ++ [.int .i64 p, .int .i64 k, .int .i64 m])) → ESl K (.sl id 0 3 (O.length + 1 + 1) (O.length + 1 + 1)) ((o :: O) ++ [⟨p, k, m⟩]) := fun K id hK => by
        have := GSl.ownC (H := K) (id := id) (cap := O.length + 1 + 1) (cs := OF ++ [.int .i64 p, .int .i64 k, .int .i64 m]) (xs := (o :: O) ++ [⟨p, k, m⟩]) elen hK (by
          rw [hxl, List.take_of_length_le (by simp [hOFl]; omega), hOF, List.flatMap_append]; rfl) (by omega) (by rw [hxl]; simp [hOFl]; omega)
        rw [hxl] at this
        exact this
      refine ⟨_, [], stampCheck (hsl _ _ (by simp)) ⟨rfl, by simp⟩, by simp, ?_⟩
      by_cases hok : hErr ((o :: O) ++ [⟨p, k, m⟩]) = 0
      · have hs : histS (o :: O) ⟨p, k, m⟩ = (o :: O) ++ [⟨p, k, m⟩] := if_pos hok
        rw [hs] at hst
        rw [hok]
        simp
        (repeat' (first | refine awp_seq ?_ | (refine awp_region tabOk ?_; simp [maxLen, wr, hno, hml, hml1, hOFl, hOFt]) | (refine awp_if ?_; simp [maxLen, wr, hno, hml, hml1, hOFl, hOFt]) | refine awp_block ?_ | refine And.intro ?_ ?_ | intro _ | (refine awp_skip ?_; simp [maxLen, wr, hno, hml, hml1, hOFl, hOFt]) | (refine awp_ret ?_; simp [maxLen, wr, hno, hml, hml1, hOFl, hOFt]) | (refine awp_exit ?_; simp [maxLen, wr, hno, hml, hml1, hOFl, hOFt])))
        refine ⟨i + 1, by omega, (o :: O) ++ [⟨p, k, m⟩], ⟨by omega, hok, hst.symm⟩, ?_⟩
        rw [hgs, gV_snoc]
        exact wk_gcl [6] (gcOk_of (by decide) (by simp [hOFr, enc_def])) (by simp [hid, wr])
      · have hs : histS (o :: O) ⟨p, k, m⟩ = o :: O := if_neg hok
        rw [hs] at hst
        obtain ⟨e, he⟩ : ∃ e, hErr ((o :: O) ++ [⟨p, k, m⟩]) = e := ⟨_, rfl⟩
        rw [he] at hok ⊢
        simp [hok]
        (repeat' (first | refine awp_seq ?_ | (refine awp_region tabOk ?_; simp [maxLen, wr]) | (refine awp_if ?_; simp [maxLen, wr]) | refine awp_block ?_ | refine And.intro ?_ ?_ | intro _ | (refine awp_skip ?_; simp [maxLen, wr]) | (refine awp_ret ?_; simp [maxLen, wr]) | (refine awp_exit ?_; simp [maxLen, wr])))
        refine ⟨i + 1, by omega, o :: O, ⟨by omega, hO, hst.symm⟩, ?_⟩
        rw [hgB]
        exact wk_gcl [0] (gcOk_of (by decide) (by simp [hOFr])) (by simp [hid, wr])
  · obtain rfl : i = l.length := by omega
    rw [List.take_length] at hOi
    have e : O = histL l := hOi
    subst e
    (repeat' (first | refine awp_seq ?_ | (refine awp_region tabOk ?_; simp [hlt]) | (refine awp_if ?_; simp [hlt]) | refine awp_block ?_ | refine And.intro ?_ ?_ | intro _ | (refine awp_skip ?_; simp [hlt]) | (refine awp_ret ?_; simp [hlt]) | (refine awp_exit ?_; simp [hlt])))
    exact ⟨_, _, GcTo.refl (by simp), q⟩
def four : List Ev := [⟨0, 2, 0⟩, ⟨1, 3, 0⟩, ⟨1, 3, 0⟩, ⟨2, 1, 0⟩]
def three : List Ev := [⟨0, 2, 0⟩, ⟨1, 3, 0⟩, ⟨2, 1, 0⟩]
theorem hist_four : histL four = three := by decide +kernel
theorem vos_three : (vosL three).flatMap Mt.vs = [.int .i64 1, .int .i64 0, .int .i64 0, .int .i64 0, .int .i64 0, .int .i64 0, .int .i64 1, .int .i64 1, .int .i64 0, .int .i64 0, .int .i64 0, .int .i64 0, .int .i64 0, .int .i64 0, .int .i64 1, .int .i64 0, .int .i64 0, .int .i64 0] := by rfl
set_option maxRecDepth 100000 in
set_option maxHeartbeats 2000000 in
theorem grownT {H : List Blk} {Q : AV → List Blk → Prop} (q : Q (.c (.sc (.bool true))) H) :
    ACalls Try.prog 49 [] H Q := by
  refine acalls_of tabOk Try.func49 (by kernel_rfl) rfl (by kernel_rfl) ?_
  (repeat' (first | refine awp_seq ?_ | (refine awp_region tabOk ?_; simp) | (refine awp_if ?_; simp) | refine awp_block ?_ | refine And.intro ?_ ?_ | intro _ | (refine awp_skip ?_; simp) | (refine awp_ret ?_; simp) | (refine awp_exit ?_; simp)))
  refine historyOf (l := four) (GSl.ownC (cs := four.flatMap Ev.enc) elen (by simp [four, Ev.enc]) (by rfl) (by decide) (by decide)) (by decide) ?_
  rw [hist_four]
  ((try simp [three]); (repeat' (first | refine awp_seq ?_ | (refine awp_region tabOk ?_; simp [three]) | (refine awp_if ?_; simp [three]) | refine awp_block ?_ | refine And.intro ?_ ?_ | intro _ | (refine awp_skip ?_; simp [three]) | (refine awp_ret ?_; simp [three]) | (refine awp_exit ?_; simp [three]))))
  refine vectVectorsX (xs := three) (GSl.ownC (cs := three.flatMap Ev.enc) elen (by simp [three, gB]) (by rfl) (by decide) (by decide)) (fun h => absurd (by decide +kernel) h) (fun _ => ?_)
  have hV : ∀ id, gV 6 id (vosL three) = .sl id 0 6 3 3 := fun id => rfl
  have hB := gB_ne (enc := Mt.vs) (xs := vosL three) (by decide)
  rw [vos_three] at hB
  rw [hB, hV]
  ((try simp [three]); (repeat' (first | refine awp_seq ?_ | (refine awp_region tabOk ?_; simp [three]) | (refine awp_if ?_; simp [three]) | refine awp_block ?_ | refine And.intro ?_ ?_ | intro _ | (refine awp_skip ?_; simp [three]) | (refine awp_ret ?_; simp [three]) | (refine awp_exit ?_; simp [three]))))
  exact ⟨H, _, gcTo_none (fun _ => rfl), q⟩
end Go.Proofs.Ytjjhogleiolngaa
/-! Oa -/
namespace Go.Proofs.Ytjjhogleiolngaa
set_option linter.unusedVariables false
set_option linter.unusedSimpArgs false
open Go.RowKit
namespace Od
variable (z : Nat → Nat)
/-- The weight of the last k wheels. -/
def wt : Nat → Nat
  | 0 => 1
  | k + 1 => (z (5 - k) + 1) * wt k
/-- The k-th wheel from the last, at n. -/
def dg (k n : Nat) : Nat := n / wt z k % (z (5 - k) + 1)
theorem wt_pos : ∀ k, 0 < wt z k
  | 0 => by simp [wt]
  | k + 1 => Nat.mul_pos (by omega) (wt_pos k)
theorem wt_dvd {k : Nat} : ∀ {t}, k ≤ t → wt z k ∣ wt z t
  | 0, h => by have e : k = 0 := by omega
               rw [e]; exact Nat.dvd_refl _
  | t + 1, h => by
    by_cases e : k = t + 1
    · subst e; exact Nat.dvd_refl _
    · exact Nat.dvd_trans (wt_dvd (t := t) (by omega)) ⟨z (5 - t) + 1, by rw [Nat.mul_comm]; rfl⟩
def mxd (n t : Nat) : Prop := ∀ k, k < t → dg z k n = z (5 - k)
variable {z}
theorem succ_mod {a s : Nat} (h : ¬a % (s + 1) = s) : (a + 1) % (s + 1) = a % (s + 1) + 1 ∧ (a + 1) / (s + 1) = a / (s + 1) := by
  have h1 := Nat.div_add_mod a (s + 1)
  have h2 := Nat.mod_lt a (show 0 < s + 1 by omega)
  have e : a + 1 = a % (s + 1) + 1 + (s + 1) * (a / (s + 1)) := by omega
  have h3 : (a + 1) % (s + 1) = (a % (s + 1) + 1) % (s + 1) := by conv => lhs; rw [e, Nat.add_mul_mod_self_left]
  refine ⟨by rw [h3, Nat.mod_eq_of_lt (by omega)], ?_⟩
  conv => lhs; rw [e, Nat.add_mul_div_left _ _ (show 0 < s + 1 by omega), Nat.div_eq_of_lt (show a % (s + 1) + 1 < s + 1 by omega), Nat.zero_add]
theorem succ_max {a s : Nat} (h : a % (s + 1) = s) : (s + 1) ∣ a + 1 := by
  have h1 := Nat.div_add_mod a (s + 1)
  exact ⟨a / (s + 1) + 1, by rw [Nat.mul_add]; omega⟩
theorem max_dvd {n : Nat} : ∀ {t}, mxd z n t → wt z t ∣ n + 1
  | 0, _ => ⟨n + 1, by simp [wt]⟩
  | t + 1, h => by
    obtain ⟨m, hm⟩ := max_dvd (t := t) fun k hk => h k (by omega)
    have hp := wt_pos z t
    have hd : n / wt z t = m - 1 := by
      have hm0 : m ≠ 0 := by rintro rfl; simp at hm
      obtain ⟨m, rfl⟩ : ∃ m', m = m' + 1 := ⟨m - 1, by omega⟩
      rw [Nat.mul_add] at hm
      rw [Nat.add_sub_cancel]
      exact Nat.div_eq_of_lt_le (by rw [Nat.mul_comm]; omega) (by rw [Nat.add_mul, Nat.mul_comm]; omega)
    have h1 := h t (by omega)
    unfold dg at h1
    rw [hd] at h1
    have hm0 : m ≠ 0 := by rintro rfl; simp at hm
    obtain ⟨e, he⟩ := succ_max h1
    rw [show m - 1 + 1 = m by omega] at he
    exact ⟨e, by rw [hm, he]; show _ = (z (5 - t) + 1) * wt z t * e; rw [Nat.mul_comm (wt z t), Nat.mul_assoc, Nat.mul_assoc, Nat.mul_comm e]⟩
theorem dg_low {n t k : Nat} (h : mxd z n t) (hk : k < t) : dg z k (n + 1) = 0 := by
  obtain ⟨e, he⟩ := Nat.dvd_trans (wt_dvd z (show k + 1 ≤ t by omega)) (max_dvd h)
  unfold dg
  rw [he, show wt z (k + 1) * e = wt z k * ((z (5 - k) + 1) * e) by show (z (5 - k) + 1) * wt z k * e = _; rw [Nat.mul_comm (z (5 - k) + 1), Nat.mul_assoc], Nat.mul_div_cancel_left _ (wt_pos z k), Nat.mul_mod_right]
theorem div_at {n t : Nat} (h : mxd z n t) : (n + 1) / wt z t = n / wt z t + 1 := by
  obtain ⟨m, hm⟩ := max_dvd h
  have hp := wt_pos z t
  have hm0 : m ≠ 0 := by rintro rfl; simp at hm
  obtain ⟨m, rfl⟩ : ∃ m', m = m' + 1 := ⟨m - 1, by omega⟩
  rw [hm, Nat.mul_div_cancel_left _ hp]
  rw [Nat.mul_add] at hm
  rw [show n / wt z t = m from Nat.div_eq_of_lt_le (by rw [Nat.mul_comm]; omega) (by rw [Nat.add_mul, Nat.mul_comm]; omega)]
theorem dg_at {n t : Nat} (h : mxd z n t) (hne : ¬dg z t n = z (5 - t)) : dg z t (n + 1) = dg z t n + 1 := by
  unfold dg at *
  rw [div_at h]; exact (succ_mod hne).1
theorem dg_high {n t k : Nat} (h : mxd z n t) (hne : ¬dg z t n = z (5 - t)) (hk : t < k) : dg z k (n + 1) = dg z k n := by
  obtain ⟨e, he⟩ := wt_dvd z (show t + 1 ≤ k by omega)
  have h1 : ∀ x, x / wt z (t + 1) = x / wt z t / (z (5 - t) + 1) := fun x => by rw [show wt z (t + 1) = wt z t * (z (5 - t) + 1) from Nat.mul_comm _ _, Nat.div_div_eq_div_mul]
  unfold dg at *
  rw [he, ← Nat.div_div_eq_div_mul, ← Nat.div_div_eq_div_mul, h1, h1, div_at h, (succ_mod hne).2]
theorem max_all {n : Nat} (h : mxd z n 6) (hn : n < wt z 6) : n + 1 = wt z 6 := by
  have := Nat.le_of_dvd (by omega) (max_dvd h); omega
theorem dg_top {k : Nat} (hk : k < 6) : dg z k (wt z 6) = 0 := by
  obtain ⟨e, he⟩ := wt_dvd z (show k + 1 ≤ 6 by omega)
  unfold dg
  rw [he, show wt z (k + 1) * e = wt z k * ((z (5 - k) + 1) * e) by show (z (5 - k) + 1) * wt z k * e = _; rw [Nat.mul_comm (z (5 - k) + 1), Nat.mul_assoc], Nat.mul_div_cancel_left _ (wt_pos z k), Nat.mul_mod_right]
theorem next_lt {n t : Nat} (ht : t < 6) (h : mxd z n t) (hne : ¬dg z t n = z (5 - t)) (hn : n < wt z 6) : n + 1 < wt z 6 := by
  by_cases e : n + 1 = wt z 6
  · have h1 := dg_at h hne
    rw [e, dg_top ht] at h1; omega
  · omega
theorem dg_le (k n : Nat) : dg z k n ≤ z (5 - k) := by
  have := Nat.mod_lt (n / wt z k) (show 0 < z (5 - k) + 1 by omega)
  unfold dg; omega
theorem dg_0 (k : Nat) : dg z k 0 = 0 := by simp [dg]
variable (z)
/-- The vector of n. -/
def vc (n q : Nat) : Nat := if q < 6 then dg z (5 - q) n else 0
def vi (n : Nat) : Nat → Int := fun q => (vc z n q : Int)
/-- The vector of n, its last t wheels set back. -/
def vr (n t : Nat) : Nat → Int := fun q => if 6 ≤ q + t then 0 else vi z n q
/-- The first factors. -/
def pr : Nat → Nat
  | 0 => 1
  | p + 1 => pr p * (z p + 1)
theorem pr_6 : pr z 6 = wt z 6 := by
  simp only [pr, wt]
  show 1 * (z 0 + 1) * (z 1 + 1) * (z 2 + 1) * (z 3 + 1) * (z 4 + 1) * (z 5 + 1) = (z 0 + 1) * ((z 1 + 1) * ((z 2 + 1) * ((z 3 + 1) * ((z 4 + 1) * ((z 5 + 1) * 1)))))
  simp only [Nat.mul_assoc, Nat.one_mul, Nat.mul_one]
theorem pr_le : ∀ {a b}, a ≤ b → pr z a ≤ pr z b
  | a, 0, h => by have e : a = 0 := by omega
                  rw [e]; exact Nat.le_refl _
  | a, b + 1, h => by
    by_cases e : a = b + 1
    · subst e; exact Nat.le_refl _
    · exact Nat.le_trans (pr_le (a := a) (b := b) (by omega)) (Nat.le_mul_of_pos_right _ (by omega))
variable {z}
theorem vr_0 (n : Nat) : Mt.vs (vr z n 0) = Mt.vs (vi z n) := rfl
theorem vi_0 : Mt.vs (vi z 0) = Mt.vs (fun _ => 0) := by
  have : ∀ q, vi z 0 q = 0 := fun q => by unfold vi vc; split <;> simp [dg_0]
  simp [Mt.vs, this]
theorem vr_at {n t : Nat} (ht : t < 6) : vr z n t (5 - t) = (dg z t n : Int) := by
  unfold vr vi vc
  rw [if_neg (by omega), if_pos (by omega), show 5 - (5 - t) = t by omega]
theorem vr_step {n t : Nat} (ht : t < 6) : (Mt.vs (vr z n t)).set (5 - t) (.int .i64 0) = Mt.vs (vr z n (t + 1)) := by
  have : t = 0 ∨ t = 1 ∨ t = 2 ∨ t = 3 ∨ t = 4 ∨ t = 5 := by omega
  rcases this with rfl | rfl | rfl | rfl | rfl | rfl <;> simp [Mt.vs, vr]
theorem vi_next {n t : Nat} (ht : t < 6) (h : mxd z n t) (hne : ¬dg z t n = z (5 - t)) : (Mt.vs (vr z n t)).set (5 - t) (.int .i64 ((dg z t n : Int) + 1)) = Mt.vs (vi z (n + 1)) := by
  have hl : ∀ k, k < t → dg z k (n + 1) = 0 := fun k hk => dg_low h hk
  have ha := dg_at h hne
  have hh : ∀ k, t < k → dg z k (n + 1) = dg z k n := fun k hk => dg_high h hne hk
  have : t = 0 ∨ t = 1 ∨ t = 2 ∨ t = 3 ∨ t = 4 ∨ t = 5 := by omega
  rcases this with rfl | rfl | rfl | rfl | rfl | rfl <;> simp [Mt.vs, vr, vi, vc, hl, ha, hh]
theorem vc_le (n : Nat) {q : Nat} (hq : q < 6) : vc z n q ≤ z q := by
  have := dg_le (z := z) (5 - q) n
  rw [show 5 - (5 - q) = q by omega] at this
  unfold vc; rw [if_pos hq]; exact this
theorem vi_6 (n : Nat) {q : Nat} (hq : 6 ≤ q) : vi z n q = 0 := by unfold vi vc; rw [if_neg (by omega)]; rfl
variable (z)
/-- The good ones among the first n. -/
def fl (good : (Nat → Int) → Bool) (n : Nat) : List (Nat → Int) := ((List.range n).map (vi z)).filter good
variable {z}
theorem fl_succ (good : (Nat → Int) → Bool) (n : Nat) : fl z good (n + 1) = fl z good n ++ if good (vi z n) = true then [vi z n] else [] := by
  unfold fl; rw [List.range_succ, List.map_append, List.filter_append]; simp [List.filter]
  split <;> simp_all
theorem fl_len (good : (Nat → Int) → Bool) (n : Nat) : (fl z good n).length ≤ n := by
  have := List.length_filter_le good ((List.range n).map (vi z))
  simpa [fl] using this
end Od
end Go.Proofs.Ytjjhogleiolngaa
/-! Ob -/
namespace Go.Proofs.Ytjjhogleiolngaa
set_option linter.unusedSimpArgs false
set_option linter.unusedVariables false
open Go.RowKit
attribute [local irreducible] AWP ACalls Wk GcTo
attribute [local simp] tab3 ti3 tab4 ti4 tab23 ti23 tab24 ti24 tab28 ti28 tab29 ti29 tab135 ti135
open Hi Ct Od
def zz (h : List Ev) (q : Nat) : Nat := (evs h.length (eP h) q).length
def good (h : List Ev) (c : Nat → Int) : Bool := decide (wi (grV h c 6) c ∧ wi c (grV h c 6))
def rm (h : List Ev) : Nat := wt (zz h) 6
theorem zz_le (h : List Ev) (q : Nat) : zz h q ≤ h.length := by have := (szV_le h h.length q).2; unfold szV at this; unfold zz; omega
theorem vi_cut {h : List Ev} (he : hErr h = 0) (n : Nat) : CutR h (vi (zz h) n) := by
  refine ⟨he, fun q => by unfold vi; omega, fun q => ?_⟩
  unfold vi vc szV
  split
  · next hq => have := vc_le (z := zz h) n hq; unfold vc at this; rw [if_pos hq] at this; unfold zz at this ⊢; omega
  · omega
set_option maxRecDepth 100000 in
set_option maxHeartbeats 4000000 in
theorem cutAll {H : List Blk} {a : Sc} {h : List Ev} {Q : AV → List Blk → Prop} (ha : ESl H a h) (q0 : ¬hErr h = 0 → Q (.tup [.sc .nils, .sc (.int .i64 (hErr h))]) H)
    (q1 : hErr h = 0 → 4096 < rm h → Q (.tup [.sc .nils, .sc (.int .i64 2)]) H)
    (q2 : hErr h = 0 → ¬4096 < rm h → Q (.tup [.sc (gV 6 H.length (fl (zz h) (good h) (rm h))), .sc (.int .i64 0)]) (H ++ [gB Mt.vs (fl (zz h) (good h) (rm h))])) :
    ACalls Try.prog 39 [.sc a] H Q := by
  refine acalls_of tabOk Try.func39 (by kernel_rfl) rfl (by kernel_rfl) ?_
  have hra := ha.ren
  have vs_ov := fun g : Nat → Int => splice_all (xs := Mt.vs g) (ys := [.int .i64 0, .int .i64 0, .int .i64 0, .int .i64 0, .int .i64 0, .int .i64 0]) rfl
  have hgr := fun (m : Nat → Nat) (l : List (Nat → Int)) => ren_gB (m := m) (enc := Mt.vs) (fun x => rfl) l
  (repeat' (first | refine awp_seq ?_ | (refine awp_region tabOk ?_; simp) | (refine awp_if ?_; simp) | refine awp_block ?_ | refine And.intro ?_ ?_ | intro _ | (refine awp_skip ?_; simp) | (refine awp_ret ?_; simp) | (refine awp_exit ?_; simp)))
  refine stampCheck ha ?_
  by_cases he : hErr h = 0
  · have q1 := q1 he
    have q2 := q2 he
    have hR := right_of he
    have h60 := hR.len
    have hz := zz_le h
    ((try simp [he]); (repeat' (first | refine awp_seq ?_ | (refine awp_region tabOk ?_; simp [he]) | (refine awp_if ?_; simp [he]) | refine awp_block ?_ | refine And.intro ?_ ?_ | intro _ | (refine awp_skip ?_; simp [he]) | (refine awp_ret ?_; simp [he]) | (refine awp_exit ?_; simp [he]))))
    refine cutSizes ha hR ?_
    obtain ⟨S, hS⟩ : ∃ S, S = szV h h.length := ⟨_, rfl⟩
    obtain ⟨Z, hZ⟩ : ∃ Z, Z = zz h := ⟨_, rfl⟩
    have hSZ : ∀ q, S q = (Z q : Int) := fun q => by rw [hS, hZ]; rfl
    unfold rm at q1 q2
    rw [← hZ] at hz q1 q2
    rw [← hS]
    ((try simp [vs_ov]); (repeat' (first | refine awp_seq ?_ | (refine awp_region tabOk ?_; simp [vs_ov]) | (refine awp_if ?_; simp [vs_ov]) | refine awp_block ?_ | refine And.intro ?_ ?_ | intro _ | (refine awp_skip ?_; simp [vs_ov]) | (refine awp_ret ?_; simp [vs_ov]) | (refine awp_exit ?_; simp [vs_ov]))))
    refine awp_loop_at (α := {p : Nat // p ≤ 6 ∧ pr Z p ≤ 4096}) (fun p => [(0, .c (.sc a)), (5, .c (.sc (.ptr H.length 0))), (6, .c (.sc (.int .i64 (pr Z p.1 : Nat)))), (19, .c (.agg (Mt.vs S))), (20, .c (.sc (.int .i64 p.1)))])
      (fun p => H ++ [.own (Mt.vs S)]) (fun p => 6 - p.1) ⟨0, by omega, by simp [pr]⟩ (wk_tl (by simp [pr])) ?_
    rintro ⟨p, hp, hpr⟩
    by_cases hp6 : p < 6
    · have hp6' : (p : Int) < 6 := by omega
      have a1 := Mt.vs_at S hp6
      rw [hSZ] at a1
      obtain ⟨_, a1'⟩ := List.getElem?_eq_some_iff.1 a1
      have hzp := hz p
      have wz := wrapS (Z p) (by omega)
      have hmul : pr Z (p + 1) = pr Z p * (Z p + 1) := rfl
      have hbd : pr Z (p + 1) ≤ 4096 * 61 := by rw [hmul]; exact Nat.mul_le_mul hpr (by omega)
      have wm : IntKind.i64.wrap ((pr Z p : Int) * ((Z p : Int) + 1)) = ((pr Z (p + 1) : Nat) : Int) := by
        rw [show (pr Z p : Int) * ((Z p : Int) + 1) = ((pr Z (p + 1) : Nat) : Int) by rw [hmul]; push_cast; rfl]
        exact wrap_in _ (by omega) (by omega)
      have wp := wrapS p (by omega)
      obtain ⟨m, hm⟩ : ∃ m, pr Z (p + 1) = m := ⟨_, rfl⟩
      rw [hm] at wm hbd
      by_cases hx : 4096 < m
      · have hx' : (4096 : Int) < m := by omega
        have q := q1 (by rw [← pr_6]; have := pr_le Z (show p + 1 ≤ 6 by omega); omega)
        (repeat' (first | refine awp_seq ?_ | (refine awp_region tabOk ?_; simp [hp6, hp6', a1, a1', wz, wm, hx, hx']) | (refine awp_if ?_; simp [hp6, hp6', a1, a1', wz, wm, hx, hx']) | refine awp_block ?_ | refine And.intro ?_ ?_ | intro _ | (refine awp_skip ?_; simp [hp6, hp6', a1, a1', wz, wm, hx, hx']) | (refine awp_ret ?_; simp [hp6, hp6', a1, a1', wz, wm, hx, hx']) | (refine awp_exit ?_; simp [hp6, hp6', a1, a1', wz, wm, hx, hx'])))
        exact ⟨H, _, gcTo_none (fun _ => rfl), q⟩
      · have hx' : ¬(4096 : Int) < m := by omega
        (repeat' (first | refine awp_seq ?_ | (refine awp_region tabOk ?_; simp [hp6, hp6', a1, a1', wz, wm, hx, hx', wp]) | (refine awp_if ?_; simp [hp6, hp6', a1, a1', wz, wm, hx, hx', wp]) | refine awp_block ?_ | refine And.intro ?_ ?_ | intro _ | (refine awp_skip ?_; simp [hp6, hp6', a1, a1', wz, wm, hx, hx', wp]) | (refine awp_ret ?_; simp [hp6, hp6', a1, a1', wz, wm, hx, hx', wp]) | (refine awp_exit ?_; simp [hp6, hp6', a1, a1', wz, wm, hx, hx', wp])))
        exact ⟨p + 1, by omega, ⟨by omega, by omega⟩, wk_tl (by simp [wp, hm])⟩
    · obtain rfl : p = 6 := by omega
      rw [pr_6] at hpr
      have q := q2 (by omega)
      obtain ⟨R, hR'⟩ : ∃ R, R = wt Z 6 := ⟨_, rfl⟩
      rw [← hR'] at hpr q
      have hR0 : 0 < R := by rw [hR']; exact wt_pos Z 6
      (repeat' (first | refine awp_seq ?_ | (refine awp_region tabOk ?_; simp) | (refine awp_if ?_; simp) | refine awp_block ?_ | refine And.intro ?_ ?_ | intro _ | (refine awp_skip ?_; simp) | (refine awp_ret ?_; simp) | (refine awp_exit ?_; simp)))
      refine awp_loop_at (α := {n : Nat // n < R}) (fun n => [(0, .c (.sc a)), (5, .c (.sc (.ptr H.length 0))), (9, .c (.sc (gV 6 (H.length + 2) (fl Z (good h) n.1)))), (10, .c (.sc (.ptr (H.length + 1) 0)))])
        (fun n => H ++ [.own (Mt.vs S), .own (Mt.vs (vi Z n.1)), gB Mt.vs (fl Z (good h) n.1)]) (fun n => R - n.1) ⟨0, hR0⟩ (wk_gcl [0, 1, 9] (gcOk_of (by decide) (by simp [fl, vi_0, vren]; rfl)) (by simp [fl, hra])) ?_
      rintro ⟨n, hn⟩
      have hC : CutR h (vi Z n) := by rw [hZ]; exact vi_cut he n
      have hG : eqSs (Mt.vs (grV h (vi Z n) 6)) (Mt.vs (vi Z n)) = good h (vi Z n) := vs_eqv _ _
      have hfs := fl_succ (z := Z) (good h) n
      have hfl := fl_len (z := Z) (good h) n
      have h3 : good h (vi Z n) = false ∨ (good h (vi Z n) = true ∧ fl Z (good h) n = []) ∨ (good h (vi Z n) = true ∧ ∃ o O, fl Z (good h) n = o :: O) := by
        cases good h (vi Z n) with
        | false => exact .inl rfl
        | true =>
          cases fl Z (good h) n with
          | nil => exact .inr (.inl ⟨rfl, rfl⟩)
          | cons o O => exact .inr (.inr ⟨rfl, o, O, rfl⟩)
      (repeat' (first | refine awp_seq ?_ | (refine awp_region tabOk ?_; simp) | (refine awp_if ?_; simp) | refine awp_block ?_ | refine And.intro ?_ ?_ | intro _ | (refine awp_skip ?_; simp) | (refine awp_ret ?_; simp) | (refine awp_exit ?_; simp)))
      refine awp_draw tabOk mixed [] (by kernel_rfl) ?_
      simp
      refine ⟨_, [], cutGrow0 (ha.app _) hC ⟨rfl, by simp⟩, ?_⟩
      rcases h3 with hb | ⟨hb, hO⟩ | ⟨hb, o, O, hO⟩
      case' inl =>
        rw [hb] at hG hfs
        rw [if_neg (by decide), List.append_nil] at hfs
        simp [hG, vs_okv]
        (repeat' (first | refine awp_seq ?_ | (refine awp_region tabOk ?_; simp) | (refine awp_if ?_; simp) | refine awp_block ?_ | refine And.intro ?_ ?_ | intro _ | (refine awp_skip ?_; simp) | (refine awp_ret ?_; simp) | (refine awp_exit ?_; simp)))
        refine awp_loop_at (α := {q : Nat // q ≤ 6 ∧ mxd Z n (6 - q)}) (fun q => [(0, .c (.sc a)), (5, .c (.sc (.ptr H.length 0))), (9, .c (.sc (gV 6 (H.length + 2) (fl Z (good h) (n + 1))))), (10, .c (.sc (.ptr (H.length + 1) 0))), (11, .c (.sc (.int .i64 ((q.1 : Int) - 1))))]) (fun q => H ++ [.own (Mt.vs S), .own (Mt.vs (vr Z n (6 - q.1))), gB Mt.vs (fl Z (good h) (n + 1))]) (fun q => q.1) ⟨6, by omega, fun k hk => by omega⟩ (wk_tlE (by rw [hfs]; rfl) (by simp [hfs])) ?_
      case' inr.inl =>
        rw [hb] at hG hfs
        rw [if_pos rfl, hO] at hfs
        rw [hO]
        simp [hG, vs_okv]
        (repeat' (first | refine awp_seq ?_ | (refine awp_region tabOk ?_; simp [maxLen, vs_ov]) | (refine awp_if ?_; simp [maxLen, vs_ov]) | refine awp_block ?_ | refine And.intro ?_ ?_ | intro _ | (refine awp_skip ?_; simp [maxLen, vs_ov]) | (refine awp_ret ?_; simp [maxLen, vs_ov]) | (refine awp_exit ?_; simp [maxLen, vs_ov])))
        refine awp_loop_at (α := {q : Nat // q ≤ 6 ∧ mxd Z n (6 - q)}) (fun q => [(0, .c (.sc a)), (5, .c (.sc (.ptr H.length 0))), (9, .c (.sc (gV 6 (H.length + 2) (fl Z (good h) (n + 1))))), (10, .c (.sc (.ptr (H.length + 1) 0))), (11, .c (.sc (.int .i64 ((q.1 : Int) - 1))))]) (fun q => H ++ [.own (Mt.vs S), .own (Mt.vs (vr Z n (6 - q.1))), gB Mt.vs (fl Z (good h) (n + 1))]) (fun q => q.1) ⟨6, by omega, fun k hk => by omega⟩ (by rw [hfs]; exact wk_gcl [0, 1, 4] (gcOk_of (by decide) (by simp [gB_cons, vren]; rfl)) (by simp [hra])) ?_
      case' inr.inr =>
        obtain ⟨OF, hOF, hgB, hOFl, hOFt, hOFr⟩ := gB_own vlen vren o O
        rw [hb] at hG hfs
        rw [if_pos rfl, hO] at hfs
        rw [hO] at hfl ⊢
        rw [List.length_cons] at hfl
        have hno : ¬O.length + 1 + 1 ≤ O.length + 1 := by omega
        have hml : (O.length + 1 + 1) * 48 ≤ 140737488355328 := by omega
        have hml1 : O.length + 1 + 1 ≤ 9223372036854775807 := by omega
        simp [hG, vs_okv]
        (repeat' (first | refine awp_seq ?_ | (refine awp_region tabOk ?_; simp [maxLen, hgB, hno, hml, hml1, hOFl, hOFt, vs_ov]) | (refine awp_if ?_; simp [maxLen, hgB, hno, hml, hml1, hOFl, hOFt, vs_ov]) | refine awp_block ?_ | refine And.intro ?_ ?_ | intro _ | (refine awp_skip ?_; simp [maxLen, hgB, hno, hml, hml1, hOFl, hOFt, vs_ov]) | (refine awp_ret ?_; simp [maxLen, hgB, hno, hml, hml1, hOFl, hOFt, vs_ov]) | (refine awp_exit ?_; simp [maxLen, hgB, hno, hml, hml1, hOFl, hOFt, vs_ov])))
        refine awp_loop_at (α := {q : Nat // q ≤ 6 ∧ mxd Z n (6 - q)}) (fun q => [(0, .c (.sc a)), (5, .c (.sc (.ptr H.length 0))), (9, .c (.sc (gV 6 (H.length + 2) (fl Z (good h) (n + 1))))), (10, .c (.sc (.ptr (H.length + 1) 0))), (11, .c (.sc (.int .i64 ((q.1 : Int) - 1))))]) (fun q => H ++ [.own (Mt.vs S), .own (Mt.vs (vr Z n (6 - q.1))), gB Mt.vs (fl Z (good h) (n + 1))]) (fun q => q.1) ⟨6, by omega, fun k hk => by omega⟩ (by rw [hfs, gB_snoc, gV_snoc, ← hOF]; exact wk_gcl [0, 1, 4] (gcOk_of (by decide) (by simp [hOFr, vren]; rfl)) (by simp [hra])) ?_
      all_goals
        rintro ⟨q1', hq6, hmx⟩
        cases q1' with
        | zero =>
          have e1 := max_all hmx (by rw [← hR']; exact hn)
          rw [← hR'] at e1
          rw [e1]
          (repeat' (first | refine awp_seq ?_ | (refine awp_region tabOk ?_; simp) | (refine awp_if ?_; simp) | refine awp_block ?_ | refine And.intro ?_ ?_ | intro _ | (refine awp_skip ?_; simp) | (refine awp_ret ?_; simp) | (refine awp_exit ?_; simp)))
          refine awp_draw tabOk mixed [] (by kernel_rfl) ?_
          simp
          (repeat' (first | refine awp_seq ?_ | (refine awp_region tabOk ?_; simp) | (refine awp_if ?_; simp) | refine awp_block ?_ | refine And.intro ?_ ?_ | intro _ | (refine awp_skip ?_; simp) | (refine awp_ret ?_; simp) | (refine awp_exit ?_; simp)))
          exact ⟨H ++ [gB Mt.vs (fl Z (good h) R)], .tup [.sc (gV 6 H.length (fl Z (good h) R)), .sc (.int .i64 0)], gcTo_std [2] (gcOk_of (by decide) (by simp [hgr])) (by simp), q⟩
        | succ p =>
          have ht6 : 5 - p < 6 := by omega
          have hpt : 5 - (5 - p) = p := by omega
          have ht1 : 6 - (p + 1) = 5 - p := by omega
          have hmx : mxd Z n (5 - p) := fun k hk => hmx k (by omega)
          have hp6 : p < 6 := by omega
          have hp6' : (p : Int) < 6 := by omega
          have hp5 : p ≤ 5 := by omega
          have hp0 : ¬(p : Int) < 0 := by omega
          have a1 := Mt.vs_at (vr Z n (5 - p)) hp6
          have v1 := vr_at (z := Z) (n := n) ht6
          rw [hpt] at v1
          rw [v1] at a1
          obtain ⟨_, a1'⟩ := List.getElem?_eq_some_iff.1 a1
          have a2 := Mt.vs_at S hp6
          rw [hSZ] at a2
          obtain ⟨_, a2'⟩ := List.getElem?_eq_some_iff.1 a2
          have hdl := dg_le (z := Z) (5 - p) n
          rw [hpt] at hdl
          have hzp := hz p
          by_cases e : dg Z (5 - p) n = Z p
          · have e' : (dg Z (5 - p) n : Int) = Z p := by omega
            have st := vr_step (z := Z) (n := n) ht6
            rw [hpt] at st
            have wp : IntKind.i64.wrap ((p : Int) - 1) = (p : Int) - 1 := wrap_in _ (by omega) (by omega)
            (repeat' (first | refine awp_seq ?_ | (refine awp_region tabOk ?_; simp [hp6, hp6', hp5, hp0]) | (refine awp_if ?_; simp [hp6, hp6', hp5, hp0]) | refine awp_block ?_ | refine And.intro ?_ ?_ | intro _ | (refine awp_skip ?_; simp [hp6, hp6', hp5, hp0]) | (refine awp_ret ?_; simp [hp6, hp6', hp5, hp0]) | (refine awp_exit ?_; simp [hp6, hp6', hp5, hp0])))
            refine awp_draw tabOk mixed [] (by kernel_rfl) ?_
            simp [hp6, hp6', hp5, hp0, a1, a1', a2, a2', e, e']
            (repeat' (first | refine awp_seq ?_ | (refine awp_region tabOk ?_; simp [hp6, hp6', hp5, hp0, st, wp]) | (refine awp_if ?_; simp [hp6, hp6', hp5, hp0, st, wp]) | refine awp_block ?_ | refine And.intro ?_ ?_ | intro _ | (refine awp_skip ?_; simp [hp6, hp6', hp5, hp0, st, wp]) | (refine awp_ret ?_; simp [hp6, hp6', hp5, hp0, st, wp]) | (refine awp_exit ?_; simp [hp6, hp6', hp5, hp0, st, wp])))
            exact ⟨p, by omega, ⟨by omega, fun k hk => by
              by_cases e3 : k = 5 - p
              · subst e3; rw [hpt]; exact e
              · exact hmx k (by omega)⟩, wk_tlE (by rw [show 6 - p = 5 - p + 1 by omega]) (by simp [wp])⟩
          · have e' : ¬(dg Z (5 - p) n : Int) = Z p := by omega
            have hne : ¬dg Z (5 - p) n = Z (5 - (5 - p)) := by rw [hpt]; exact e
            have st := vi_next ht6 hmx hne
            rw [hpt] at st
            have hn1 := next_lt ht6 hmx hne (by rw [← hR']; exact hn)
            have wd : IntKind.i64.wrap ((dg Z (5 - p) n : Int) + 1) = (dg Z (5 - p) n : Int) + 1 := wrap_in _ (by omega) (by omega)
            (repeat' (first | refine awp_seq ?_ | (refine awp_region tabOk ?_; simp [hp6, hp6', hp5, hp0]) | (refine awp_if ?_; simp [hp6, hp6', hp5, hp0]) | refine awp_block ?_ | refine And.intro ?_ ?_ | intro _ | (refine awp_skip ?_; simp [hp6, hp6', hp5, hp0]) | (refine awp_ret ?_; simp [hp6, hp6', hp5, hp0]) | (refine awp_exit ?_; simp [hp6, hp6', hp5, hp0])))
            refine awp_draw tabOk mixed [] (by kernel_rfl) ?_
            simp [hp6, hp6', hp5, hp0, a1, a1', a2, a2', e, e']
            (repeat' (first | refine awp_seq ?_ | (refine awp_region tabOk ?_; simp [hp6, hp6', hp5, hp0, a1, a1', wd, st, vs_ov]) | (refine awp_if ?_; simp [hp6, hp6', hp5, hp0, a1, a1', wd, st, vs_ov]) | refine awp_block ?_ | refine And.intro ?_ ?_ | intro _ | (refine awp_skip ?_; simp [hp6, hp6', hp5, hp0, a1, a1', wd, st, vs_ov]) | (refine awp_ret ?_; simp [hp6, hp6', hp5, hp0, a1, a1', wd, st, vs_ov]) | (refine awp_exit ?_; simp [hp6, hp6', hp5, hp0, a1, a1', wd, st, vs_ov])))
            exact ⟨n + 1, by omega, by omega, wk_gcl [0, 3, 2] (gcOk_of (by decide) (by simp [hgr, vren])) (by simp [hra])⟩
  · have q := q0 he
    ((try simp [he]); (repeat' (first | refine awp_seq ?_ | (refine awp_region tabOk ?_; simp [he]) | (refine awp_if ?_; simp [he]) | refine awp_block ?_ | refine And.intro ?_ ?_ | intro _ | (refine awp_skip ?_; simp [he]) | (refine awp_ret ?_; simp [he]) | (refine awp_exit ?_; simp [he]))))
    exact ⟨H, _, GcTo.refl (Nat.le_refl _), q⟩
end Go.Proofs.Ytjjhogleiolngaa
/-! Oc -/
namespace Go.Proofs.Ytjjhogleiolngaa
set_option linter.unusedVariables false
set_option linter.unusedSimpArgs false
open Go.RowKit
open Hi Ct Od
namespace Od
theorem inj_len {α : Type} {f : α → Nat} : ∀ {l1 : List α} {l2 : List Nat}, l1.Nodup → (∀ x ∈ l1, f x ∈ l2) → (∀ x ∈ l1, ∀ y ∈ l1, f x = f y → x = y) → l1.length ≤ l2.length
  | [], _, _, _, _ => by simp
  | x :: r, l2, hn, hm, hi => by
    have hx := hm x (by simp)
    obtain ⟨h1, h2⟩ := List.nodup_cons.1 hn
    have := inj_len (l1 := r) (l2 := l2.erase (f x)) h2 (fun y hy => (List.mem_erase_of_ne (fun e => h1 (by rw [← hi y (by simp [hy]) x (by simp) e]; exact hy))).2 (hm y (by simp [hy]))) (fun a ha b hb => hi a (by simp [ha]) b (by simp [hb]))
    rw [List.length_erase_of_mem hx] at this
    have : 0 < l2.length := List.length_pos_of_mem hx
    simp only [List.length_cons]; omega
section
variable (z : Nat → Nat)
def sv (d : Nat → Nat) : Nat → Nat
  | 0 => 0
  | t + 1 => sv d t + wt z t * d t
variable {z}
theorem sv_dg (n : Nat) : ∀ t, sv z (fun k => dg z k n) t = n % wt z t
  | 0 => by simp [sv, wt, Nat.mod_one]
  | t + 1 => by
    show sv z (fun k => dg z k n) t + wt z t * dg z t n = n % ((z (5 - t) + 1) * wt z t)
    rw [sv_dg n t, Nat.mul_comm (z (5 - t) + 1), Nat.mod_mul]; rfl
theorem sv_congr {d e : Nat → Nat} : ∀ t, (∀ k, k < t → d k = e k) → sv z d t = sv z e t
  | 0, _ => rfl
  | t + 1, h => by simp only [sv]; rw [sv_congr t fun k hk => h k (by omega), h t (by omega)]
theorem dg_inj {m n : Nat} (hm : m < wt z 6) (hn : n < wt z 6) (h : ∀ k, k < 6 → dg z k m = dg z k n) : m = n := by
  have h1 := sv_dg (z := z) m 6
  have h2 := sv_dg (z := z) n 6
  rw [Nat.mod_eq_of_lt hm] at h1
  rw [Nat.mod_eq_of_lt hn] at h2
  rw [← h1, ← h2]; exact sv_congr 6 h
theorem sv_lt {d : Nat → Nat} : ∀ t, (∀ k, k < t → d k ≤ z (5 - k)) → sv z d t < wt z t
  | 0, _ => by simp [sv, wt]
  | t + 1, h => by
    have h1 := sv_lt t fun k hk => h k (by omega)
    have h2 : wt z t * d t ≤ wt z t * z (5 - t) := Nat.mul_le_mul (Nat.le_refl _) (h t (by omega))
    simp only [sv, wt]
    rw [Nat.add_mul, Nat.one_mul, Nat.mul_comm (z (5 - t))]; omega
theorem dg_sv {d : Nat → Nat} : ∀ t, (∀ k, k < t → d k ≤ z (5 - k)) → ∀ k, k < t → dg z k (sv z d t) = d k
  | 0, _, k, hk => by omega
  | t + 1, h, k, hk => by
    have h1 := sv_lt t fun k hk => h k (by omega)
    simp only [sv]
    by_cases e : k = t
    · subst e
      unfold dg
      rw [Nat.add_mul_div_left _ _ (wt_pos z k), Nat.div_eq_of_lt h1, Nat.zero_add, Nat.mod_eq_of_lt (by have := h k (by omega); omega)]
    · rw [← dg_sv t (fun k hk => h k (by omega)) k (by omega)]
      obtain ⟨f, hf⟩ := wt_dvd z (show k + 1 ≤ t by omega)
      unfold dg
      rw [hf, show wt z (k + 1) * f * d t = wt z k * ((z (5 - k) + 1) * (f * d t)) by show (z (5 - k) + 1) * wt z k * f * d t = _; rw [Nat.mul_comm (z (5 - k) + 1)]; simp only [Nat.mul_assoc], Nat.add_mul_div_left _ _ (wt_pos z k), Nat.add_mul_mod_self_left]
end
/-- A set's bits. -/
def msk (f : Nat → Bool) : Nat → Nat
  | 0 => 0
  | n + 1 => msk f n ||| if f n then 2 ^ n else 0
theorem msk_bit (f : Nat → Bool) (a : Nat) : ∀ n, (msk f n).testBit a = (decide (a < n) && f a)
  | 0 => by simp [msk]
  | n + 1 => by
    simp only [msk]
    rw [Nat.testBit_or, msk_bit f a n]
    by_cases e : a = n
    · subst e
      cases h : f a <;> simp [Nat.testBit_two_pow]
    · have hd : decide (a < n + 1) = decide (a < n) := by rw [decide_eq_decide]; omega
      rw [hd]
      cases h : f n
      · simp
      · simp [Nat.testBit_two_pow]
        intro h2; exact absurd h2.symm e
theorem msk_lt (f : Nat → Bool) : ∀ n, msk f n < 2 ^ n
  | 0 => by simp [msk]
  | n + 1 => by
    have h1 := msk_lt f n
    have h2 : 2 ^ n < 2 ^ (n + 1) := Nat.pow_lt_pow_right (by decide) (by omega)
    simp only [msk]
    refine Nat.or_lt_two_pow (by omega) ?_
    split
    · exact h2
    · omega
theorem bits_eq {s t n : Nat} (hs : s < 2 ^ n) (ht : t < 2 ^ n) (h : ∀ a, a < n → s.testBit a = t.testBit a) : s = t := by
  apply Nat.eq_of_testBit_eq
  intro a
  by_cases e : a < n
  · exact h a e
  · have hp : 2 ^ n ≤ 2 ^ a := Nat.pow_le_pow_right (by decide) (by omega)
    rw [Nat.testBit_lt_two_pow (by omega), Nat.testBit_lt_two_pow (by omega)]
theorem cnt_all {p q : Nat → Bool} : ∀ {l : List Nat}, (∀ x ∈ l, p x = true → q x = true) → l.countP p = l.countP q → ∀ x ∈ l, q x = true → p x = true
  | [], _, _, x, hx, _ => by cases hx
  | y :: r, h, hc, x, hx, hq => by
    have hle : r.countP p ≤ r.countP q := List.countP_mono_left fun x hx => h x (by simp [hx])
    rw [List.countP_cons, List.countP_cons] at hc
    have hy := h y (by simp)
    have key : r.countP p = r.countP q ∧ (q y = true → p y = true) := by
      cases hp : p y <;> cases hqy : q y <;> simp [hp, hqy] at hc hy ⊢ <;> omega
    rcases List.mem_cons.1 hx with rfl | hx
    · exact key.2 hq
    · exact cnt_all (fun x hx => h x (by simp [hx])) key.1 x hx hq
end Od
variable {h : List Ev}
/-- Closed downward. -/
def Dn (h : List Ev) (f : Nat → Bool) : Prop := ∀ a b, a < h.length → b < h.length → cau h a b = true → f b = true → f a = true
theorem cb_inc {c : Nat → Int} (hC : CutR h c) (q : Nat) : cb h (inc h c) h.length q = c q := by
  have h0 := hC.c0 q
  obtain ⟨m, hm⟩ := Int.eq_ofNat_of_zero_le h0
  have hl := hC.cl q
  unfold szV at hl
  rw [cb_cnt (S := fun i => (rk (eP h) i : Int) < c (eP h i)) (fun i _ => by unfold inc; simp) q, hm]
  have : Vc.cnt h.length (eP h) (fun i => (rk (eP h) i : Int) < c (eP h i)) q = Vc.cnt h.length (eP h) (fun i => rk (eP h) i < m) q := Vc.cnt_congr fun i _ hi => by rw [hi, hm]; omega
  rw [this, cnt_rk]; omega
theorem good_iff {c : Nat → Int} (hC : CutR h c) : good h c = true ↔ Dn h (inc h c) := by
  have hg := gw_gr hC
  have hgq : ∀ q, q < 6 → cb h (fun j => gwU h c j h.length) h.length q = grV h c 6 q := fun q hq => by
    have h1 := Mt.vs_at (cb h (fun j => gwU h c j h.length) h.length) hq
    have h2 := Mt.vs_at (grV h c 6) hq
    rw [hg, h2] at h1
    injection h1 with h1
    injection h1 with _ h1
    exact h1.symm
  unfold good
  rw [decide_eq_true_iff]
  constructor
  · rintro ⟨g1, g2⟩ a b ha hb hc hf
    have h6 := Right.p6 hC.right ha
    have e : cb h (fun j => gwU h c j h.length) h.length (eP h a) = cb h (inc h c) h.length (eP h a) := by
      rw [hgq _ h6, cb_inc hC]
      have := g1 _ h6
      have := g2 _ h6
      omega
    unfold cb at e
    have e' := Int.ofNat.inj e
    have := cnt_all (p := fun j => inc h c j && decide (eP h j = eP h a)) (q := fun j => gwU h c j h.length && decide (eP h j = eP h a)) (l := List.range h.length) (fun x _ hx => by
      rw [Bool.and_eq_true] at hx ⊢
      exact ⟨(gwU_iff h c x h.length).2 (.inl hx.1), hx.2⟩) e'.symm a (List.mem_range.2 ha) (by
      rw [Bool.and_eq_true]
      exact ⟨(gwU_iff h c a h.length).2 (.inr ⟨b, hb, hf, hc⟩), by simp⟩)
    rw [Bool.and_eq_true] at this
    exact this.1
  · intro hd
    have e : ∀ q, q < 6 → grV h c 6 q = c q := fun q hq => by
      rw [← hgq q hq, ← cb_inc hC q]
      unfold cb
      congr 1
      apply List.countP_congr
      intro x hx
      have hx := List.mem_range.1 hx
      rw [Bool.and_eq_true, Bool.and_eq_true]
      refine ⟨fun ⟨a, b⟩ => ⟨?_, b⟩, fun ⟨a, b⟩ => ⟨(gwU_iff h c x h.length).2 (.inl a), b⟩⟩
      rcases (gwU_iff h c x h.length).1 a with a | ⟨k, k1, k2, k3⟩
      · exact a
      · exact hd x k hx k1 k3 k2
    exact ⟨fun q hq => by rw [e q hq]; omega, fun q hq => by rw [e q hq]; omega⟩
theorem cau_same {i j : Nat} (hij : i < j) (hj : j < h.length) (hp : eP h i = eP h j) : cau h i j = true := (cau_iff h i j).2 (.single ⟨hij, hj, .inl hp⟩)
/-- A closed set's counts name it. -/
theorem dn_cb {f : Nat → Bool} (hd : Dn h f) {i : Nat} (hi : i < h.length) : (rk (eP h) i : Int) < cb h f h.length (eP h i) ↔ f i = true := by
  unfold cb
  have hsplit : ∀ (p : Nat → Bool) (m : Nat), m ≤ h.length → (List.range m).countP p ≤ (List.range h.length).countP p := fun p m hm => by
    obtain ⟨d, hd⟩ : ∃ d, h.length = m + d := ⟨h.length - m, by omega⟩
    rw [hd, List.range_add, List.countP_append]; omega
  have hrk : ∀ m, ((evs m (eP h) (eP h i)).length) = (List.range m).countP fun j => decide (eP h j = eP h i) := fun m => by
    unfold evs; rw [List.countP_eq_length_filter]
  constructor
  · intro hlt
    cases hf : f i with
    | true => rfl
    | false =>
      exfalso
      have : (List.range h.length).countP (fun j => f j && decide (eP h j = eP h i)) ≤ (List.range i).countP (fun j => decide (eP h j = eP h i)) := by
        obtain ⟨d, hd'⟩ : ∃ d, h.length = i + d := ⟨h.length - i, by omega⟩
        rw [hd', List.range_add, List.countP_append]
        have h1 : (List.range i).countP (fun j => f j && decide (eP h j = eP h i)) ≤ (List.range i).countP (fun j => decide (eP h j = eP h i)) := List.countP_mono_left fun x _ hx => by rw [Bool.and_eq_true] at hx; exact hx.2
        have h2 : ((List.range d).map (i + ·)).countP (fun j => f j && decide (eP h j = eP h i)) = 0 := by
          rw [List.countP_eq_zero]
          intro x hx
          obtain ⟨y, hy, rfl⟩ := List.mem_map.1 hx
          have hy := List.mem_range.1 hy
          rw [Bool.and_eq_true, decide_eq_true_eq]
          rintro ⟨g1, g2⟩
          by_cases e : y = 0
          · subst e; rw [Nat.add_zero, hf] at g1; cases g1
          · have := hd i (i + y) hi (by omega) (cau_same (by omega) (by omega) g2.symm) g1
            rw [hf] at this; cases this
        omega
      have hr := hrk i
      unfold rk at hlt
      omega
  · intro hf
    have h1 : (List.range (i + 1)).countP (fun j => decide (eP h j = eP h i)) ≤ (List.range (i + 1)).countP (fun j => f j && decide (eP h j = eP h i)) := List.countP_mono_left fun x hx hp => by
      have hx := List.mem_range.1 hx
      rw [Bool.and_eq_true]
      refine ⟨?_, hp⟩
      by_cases e : x = i
      · subst e; exact hf
      · exact hd x i (by omega) hi (cau_same (by omega) hi (of_decide_eq_true hp)) hf
    have h2 := hsplit (fun j => f j && decide (eP h j = eP h i)) (i + 1) (by omega)
    have h3 := hrk (i + 1)
    have h4 : (evs (i + 1) (eP h) (eP h i)).length = rk (eP h) i + 1 := by rw [evs_succ, if_pos rfl, List.length_append]; rfl
    omega
/-- The cut's number of a set. -/
def nof (h : List Ev) (f : Nat → Bool) : Nat := sv (zz h) (fun k => (cb h f h.length (5 - k)).toNat) 6
theorem cb_zz (f : Nat → Bool) (q : Nat) : (cb h f h.length q).toNat ≤ zz h q ∧ 0 ≤ cb h f h.length q := by
  have : (List.range h.length).countP (fun j => f j && decide (eP h j = q)) ≤ (List.range h.length).countP (fun j => decide (eP h j = q)) := List.countP_mono_left fun x _ hx => by rw [Bool.and_eq_true] at hx; exact hx.2
  unfold cb zz evs
  rw [← List.countP_eq_length_filter]
  omega
theorem nof_lt (f : Nat → Bool) : nof h f < wt (zz h) 6 := sv_lt 6 fun k _ => (cb_zz f (5 - k)).1
theorem vi_nof (f : Nat → Bool) {q : Nat} (hq : q < 6) : vi (zz h) (nof h f) q = cb h f h.length q := by
  unfold vi vc nof
  rw [if_pos hq, dg_sv 6 (fun k _ => (cb_zz f (5 - k)).1) (5 - q) (by omega), show 5 - (5 - q) = q by omega]
  have := (cb_zz (h := h) f q).2
  omega
theorem inc_nof {f : Nat → Bool} (hR : Right h) (hd : Dn h f) {i : Nat} (hi : i < h.length) : inc h (vi (zz h) (nof h f)) i = f i := by
  have := dn_cb hd hi
  unfold inc
  rw [vi_nof f (Right.p6 hR hi)]
  cases hf : f i with
  | true => exact decide_eq_true (this.2 hf)
  | false => exact decide_eq_false fun h => by rw [this.1 h] at hf; cases hf
theorem ra_Dn (s : Nat) : Po.ra (cau h) h.length s h.length = true ↔ Dn h s.testBit := by
  rw [Po.ra_iff]
  exact ⟨fun g a b ha hb => g a b ha hb, fun g a b ha hb => g a b ha hb⟩
theorem fl_length (z : Nat → Nat) (g : (Nat → Int) → Bool) (n : Nat) : (fl z g n).length = ((List.range n).filter fun k => g (vi z k)).length := by
  unfold fl; rw [List.filter_map, List.length_map]; rfl
theorem lat_count (he : hErr h = 0) : (Po.dn (fun s => Po.ra (cau h) h.length s h.length) (2 ^ h.length)).length = (fl (zz h) (good h) (wt (zz h) 6)).length := by
  have hR := right_of he
  rw [fl_length]
  unfold Po.dn
  apply Nat.le_antisymm
  · refine inj_len (f := fun s => nof h s.testBit) (List.Pairwise.filter _ List.nodup_range) (fun s hs => ?_) (fun s hs t ht e => ?_)
    · obtain ⟨h1, h2⟩ := List.mem_filter.1 hs
      have hd := (ra_Dn s).1 h2
      refine List.mem_filter.2 ⟨List.mem_range.2 (nof_lt _), (good_iff (vi_cut he _)).2 fun a b ha hb hc => ?_⟩
      rw [inc_nof hR hd ha, inc_nof hR hd hb]
      exact hd a b ha hb hc
    · obtain ⟨h1, h2⟩ := List.mem_filter.1 hs
      obtain ⟨h3, h4⟩ := List.mem_filter.1 ht
      refine bits_eq (List.mem_range.1 h1) (List.mem_range.1 h3) fun a ha => ?_
      rw [← inc_nof hR ((ra_Dn s).1 h2) ha, ← inc_nof hR ((ra_Dn t).1 h4) ha]
      have e : nof h s.testBit = nof h t.testBit := e
      rw [e]
  · refine inj_len (f := fun k => msk (inc h (vi (zz h) k)) h.length) (List.Pairwise.filter _ List.nodup_range) (fun k hk => ?_) (fun k hk m hm e => ?_)
    · obtain ⟨h1, h2⟩ := List.mem_filter.1 hk
      have hd := (good_iff (vi_cut he k)).1 h2
      refine List.mem_filter.2 ⟨List.mem_range.2 (msk_lt _ _), (ra_Dn _).2 fun a b ha hb hc => ?_⟩
      rw [msk_bit, msk_bit, decide_eq_true ha, decide_eq_true hb]
      exact hd a b ha hb hc
    · obtain ⟨h1, _⟩ := List.mem_filter.1 hk
      obtain ⟨h3, _⟩ := List.mem_filter.1 hm
      have e : msk (inc h (vi (zz h) k)) h.length = msk (inc h (vi (zz h) m)) h.length := e
      have hb : ∀ a, a < h.length → inc h (vi (zz h) k) a = inc h (vi (zz h) m) a := fun a ha => by
        have h5 := msk_bit (inc h (vi (zz h) k)) a h.length
        rw [e, msk_bit, decide_eq_true ha] at h5
        simpa using h5.symm
      have hq : ∀ q, vi (zz h) k q = vi (zz h) m q := fun q => by
        rw [← cb_inc (vi_cut he k) q, ← cb_inc (vi_cut he m) q]
        unfold cb
        congr 1
        apply List.countP_congr
        intro x hx
        rw [hb x (List.mem_range.1 hx)]
      refine dg_inj (z := zz h) (List.mem_range.1 h1) (List.mem_range.1 h3) fun j hj => ?_
      have := hq (5 - j)
      unfold vi vc at this
      simp only [if_pos (show 5 - j < 6 by omega), show 5 - (5 - j) = j by omega] at this
      omega
end Go.Proofs.Ytjjhogleiolngaa
/-! Od -/
namespace Go.Proofs.Ytjjhogleiolngaa
set_option linter.unusedVariables false
set_option linter.unusedSimpArgs false
open Go.RowKit
open Hi Ct Od
theorem wk_gclA2 {N : Nat} {H0 A K H' : List Blk} {T : Nat → AV} {L L' : List Blk} {l : List (Nat × AV)} (hK : K = H0 ++ A) (hA : ∀ b ∈ A, LowB (K.length + 2) b) (ks : List Nat) (h1 : ks[0]? = some 0) (h2 : ks[1]? = some 1) (hg : GcOk K.length ks (K ++ L).length L L') (hH : K ++ L' = H')
    (h : tlOkM (mStd K.length ks (K ++ L).length) T l) : Wk N H0 T (K ++ L) (tl l) H' := by
  subst hH
  intro ρ0 w0 ρ a w h0 hs
  obtain ⟨h1, h2⟩ := gc_relA hK h0 hs.rel hs.stp hg (fun b hb => hA b hb _ fun i hi => by
    by_cases e : i = K.length
    · subst e; rw [mStd_0, h1]; rfl
    · by_cases e2 : i = K.length + 1
      · subst e2; rw [mStd_at, h2]
      · exact mStd_low (by omega))
  refine ⟨_, hs.dfr, ⟨hs.slots.1, fun i hi => ?_⟩, h1, by rw [hK]; simp, h2⟩
  rcases tl_ofM h i with e | e
  · rw [e]; exact trivial
  · have := hs.slots.2 i hi
    rw [← e] at this
    exact relV_ren this
def hdg (g : Nat → Nat) (n k : Nat) : List Sc := (List.range n).map fun j => if j < k then .sl (g j) 0 1 n n else .nils
@[simp] theorem hdg_len (g : Nat → Nat) (n k : Nat) : (hdg g n k).length = n := by simp [hdg]
theorem hdg_at {g : Nat → Nat} {n k j : Nat} (h : j < n) : (hdg g n k)[j]? = some (if j < k then .sl (g j) 0 1 n n else .nils) := by simp [hdg, h]
theorem hdg_zero (g : Nat → Nat) (n : Nat) : hdg g n 0 = List.replicate n .nils := by
  apply List.ext_getElem?; intro q
  by_cases hq : q < n
  · rw [hdg_at hq]; simp [hq]
  · rw [List.getElem?_eq_none (by simp; omega), List.getElem?_eq_none (by simp; omega)]
theorem hdg_set {g : Nat → Nat} {n k : Nat} (h : k < n) : (hdg g n k).set k (.sl (g k) 0 1 n n) = hdg g n (k + 1) := by
  apply List.ext_getElem?; intro q
  rw [List.getElem?_set]
  by_cases hq : q < n
  · rw [hdg_at hq, hdg_at hq]
    by_cases e : k = q
    · subst e; simp [h]
    · rw [if_neg e]
      by_cases hl : q < k
      · rw [if_pos hl, if_pos (by omega)]
      · rw [if_neg hl, if_neg (by omega)]
  · rw [List.getElem?_eq_none (l := hdg g n k) (by simp; omega), List.getElem?_eq_none (by simp; omega), if_neg (by omega)]
theorem hdg_low {g : Nat → Nat} {n k K : Nat} (h : ∀ j, j < k → g j < K) : LowB K (.own (hdg g n k)) := by
  intro m hm
  show Blk.own _ = Blk.own _
  congr 1
  unfold hdg
  rw [List.map_map]
  refine List.map_congr_left fun j _ => ?_
  simp only [Function.comp]
  split
  · next hj => rw [renS_sl, hm _ (h j hj)]
  · rfl
def rw2 (n : Nat) (f : Nat → Nat → Bool) : Nat → List Blk
  | 0 => []
  | k + 1 => rw2 n f k ++ [.dead, .own (fnB n (f k))]
@[simp] theorem rw2_len (n : Nat) (f : Nat → Nat → Bool) : ∀ k, (rw2 n f k).length = 2 * k
  | 0 => rfl
  | k + 1 => by simp [rw2, rw2_len n f k]; omega
theorem rw2_at {n : Nat} {f : Nat → Nat → Bool} {j : Nat} : ∀ {k}, j < k → (rw2 n f k)[2 * j + 1]? = some (.own (fnB n (f j)))
  | 0, h => by omega
  | k + 1, h => by
    simp only [rw2]
    by_cases e : j = k
    · subst e
      rw [List.getElem?_append_right (by simp)]; simp
    · rw [List.getElem?_append_left (by simp; omega)]; exact rw2_at (by omega)
theorem rw2_low {n K : Nat} {f : Nat → Nat → Bool} : ∀ {k}, ∀ b ∈ rw2 n f k, LowB K b
  | 0, b, hb => by cases hb
  | k + 1, b, hb => by
    rcases List.mem_append.1 hb with hb | hb
    · exact rw2_low b hb
    · intro m _
      simp at hb
      rcases hb with rfl | rfl
      · rfl
      · show Blk.own _ = Blk.own _
        rw [fnB_ren]
variable {h : List Ev}
open Classical in
noncomputable def aw (h : List Ev) (i : Nat) : Nat → Nat → Bool
  | 0, _ => false
  | k + 1, x => if DD h k i then aw h i k x || decide (x = k) || (decide (x < k) && cau h x k) else aw h i k x
noncomputable def am (h : List Ev) (i k p x : Nat) : Bool := aw h i k x || decide (x = k) || (decide (x < p) && cau h x k)
theorem am_0 (i k : Nat) : (fun j => if j = k then true else aw h i k j) = am h i k 0 := by
  funext j; unfold am
  by_cases e : j = k
  · simp [e]
  · simp [e]
theorem am_step (i k p : Nat) : (fun j => if j = p then (am h i k p p || cau h p k) else am h i k p j) = am h i k (p + 1) := by
  funext j; unfold am
  by_cases e : j = p
  · subst e; simp
  · rw [if_neg e]
    have : decide (j < p + 1) = decide (j < p) := by rw [decide_eq_decide]; omega
    rw [this]
theorem am_k {i k : Nat} (hd : DD h k i) : am h i k k = aw h i (k + 1) := by funext x; simp only [aw, am]; rw [if_pos hd]
theorem aw_no {i k : Nat} (hd : ¬DD h k i) : aw h i k = aw h i (k + 1) := by funext x; simp only [aw]; rw [if_neg hd]
theorem aw_iff (i x : Nat) : ∀ k, aw h i k x = true ↔ ∃ m, m < k ∧ DD h m i ∧ (x = m ∨ (x < m ∧ cau h x m = true))
  | 0 => by simp [aw]
  | k + 1 => by
    have ih := aw_iff i x k
    simp only [aw]
    by_cases e : DD h k i
    · rw [if_pos e, Bool.or_eq_true, Bool.or_eq_true, ih, Bool.and_eq_true, decide_eq_true_eq, decide_eq_true_eq]
      constructor
      · rintro ((⟨m, a, b⟩ | a) | a)
        · exact ⟨m, by omega, b⟩
        · exact ⟨k, by omega, e, .inl a⟩
        · exact ⟨k, by omega, e, .inr a⟩
      · rintro ⟨m, a, b, c⟩
        by_cases e2 : m = k
        · subst e2
          rcases c with c | c
          · exact .inl (.inr c)
          · exact .inr c
        · exact .inl (.inl ⟨m, by omega, b, c⟩)
    · rw [if_neg e, ih]
      constructor
      · rintro ⟨m, a, b⟩; exact ⟨m, by omega, b⟩
      · rintro ⟨m, a, b, c⟩
        by_cases e2 : m = k
        · subst e2; exact absurd b e
        · exact ⟨m, by omega, b, c⟩
theorem DD_lt {i j : Nat} (d : DD h i j) : i < j ∧ j < h.length := ⟨d.1, d.2.1⟩
theorem cau_lt {i j : Nat} (d : cau h i j = true) : i < j ∧ j < h.length := by
  have t := (cau_iff h i j).1 d
  clear d
  induction t with
  | single e => exact DD_lt e
  | tail _ e ih => have := DD_lt e; omega
theorem aw_cau (i x : Nat) : aw h i i x = cau h x i := by
  rw [Bool.eq_iff_iff, aw_iff, cau_iff]
  constructor
  · rintro ⟨m, _, d, rfl | ⟨_, c⟩⟩
    · exact .single d
    · exact .tail ((cau_iff h x m).1 c) d
  · intro t
    cases t with
    | single d => exact ⟨x, (DD_lt d).1, d, .inl rfl⟩
    | tail t d => exact ⟨_, (DD_lt d).1, d, .inr ⟨(cau_lt ((cau_iff h _ _).2 t)).1, (cau_iff h _ _).2 t⟩⟩
def sm (z : Nat → Nat) : Nat → Nat
  | 0 => 0
  | p + 1 => sm z p + z p
theorem pr_pow (z : Nat → Nat) : ∀ p, pr z p ≤ 2 ^ sm z p
  | 0 => by simp [pr, sm]
  | p + 1 => by
    simp only [pr, sm]
    rw [Nat.pow_add]
    exact Nat.mul_le_mul (pr_pow z p) Nat.lt_two_pow_self
theorem sm_evs (P : Nat → Nat) : ∀ n, sm (fun q => (evs n P q).length) 6 ≤ n
  | 0 => by simp [sm, evs]
  | n + 1 => by
    have ih := sm_evs P n
    simp only [sm, evs_succ, List.length_append] at ih ⊢
    have key : ∀ q, (if P n = q then [n] else []).length = if P n = q then 1 else 0 := fun q => by split <;> rfl
    simp only [key]
    have : (if P n = 0 then 1 else 0) + (if P n = 1 then 1 else 0) + (if P n = 2 then 1 else 0) + (if P n = 3 then 1 else 0) + (if P n = 4 then 1 else 0) + (if P n = 5 then 1 else 0) ≤ 1 := by
      by_cases h0 : P n = 0
      · simp [h0]
      · by_cases h1 : P n = 1
        · simp [h1]
        · by_cases h2 : P n = 2
          · simp [h2]
          · by_cases h3 : P n = 3
            · simp [h3]
            · by_cases h4 : P n = 4
              · simp [h4]
              · by_cases h5 : P n = 5
                · simp [h5]
                · simp [h0, h1, h2, h3, h4, h5]
    omega
theorem rm_12 (hn : h.length ≤ 12) : ¬4096 < rm h := by
  have h1 := pr_pow (zz h) 6
  have h2 := sm_evs (eP h) h.length
  have h3 : 2 ^ sm (zz h) 6 ≤ 2 ^ 12 := Nat.pow_le_pow_right (by decide) (by unfold zz; omega)
  unfold rm
  rw [← pr_6]
  omega
end Go.Proofs.Ytjjhogleiolngaa
/-! Oe -/
namespace Go.Proofs.Ytjjhogleiolngaa
set_option linter.unusedSimpArgs false
set_option linter.unusedVariables false
open Go.RowKit
attribute [local irreducible] AWP ACalls Wk GcTo
attribute [local simp] tab3 ti3 tab4 ti4 tab24 ti24 tab29 ti29 tab36 ti36 tab62 ti62 tab80 ti80 tab82 ti82 tab135 ti135
open Hi Ct Od Po
set_option maxRecDepth 100000 in
set_option maxHeartbeats 4000000 in
theorem stampAhead {H : List Blk} {a : Sc} {h : List Ev} {Q : AV → List Blk → Prop} (ha : ESl H a h) (he : hErr h = 0)
    (q : ∀ b L, GSl 2 Pa.enc (H ++ L) b (prU (cau h) h.length h.length) → Q (.tup [.sc b, .sc (.int .i64 0)]) (H ++ L)) :
    ACalls Try.prog 52 [.sc a] H Q := by
  refine acalls_of tabOk Try.func52 (by kernel_rfl) rfl (by kernel_rfl) ?_
  have la := ha.len (i := ti24) (e := 135) rfl
  have hra := ha.ren
  have hR := right_of he
  have hl := hR.len
  simp only [ti24] at la
  have hgr := fun (m : Nat → Nat) (l : List Pa) => ren_gB (m := m) (enc := Pa.enc) (fun x => rfl) l
  obtain ⟨g, hg⟩ : ∃ g : Nat → Nat, ∀ j, g j = H.length + 1 + (2 * j + 1) := ⟨_, fun _ => rfl⟩
  obtain ⟨F, hF⟩ : ∃ F : Nat → Nat → Bool, ∀ j, F j = fun x => cau h x j := ⟨_, fun _ => rfl⟩
  have hn1 : (h.length : Int) ≤ 9223372036854775807 := by omega
  have hn2 : 24 * (h.length : Int) ≤ 281474976710656 := by omega
  have hn3 : (h.length : Int) ≤ 281474976710656 := by omega
  (repeat' (first | refine awp_seq ?_ | (refine awp_region tabOk ?_; simp) | (refine awp_if ?_; simp) | refine awp_block ?_ | refine And.intro ?_ ?_ | intro _ | (refine awp_skip ?_; simp) | (refine awp_ret ?_; simp) | (refine awp_exit ?_; simp)))
  refine stampCheck ha ?_
  ((try simp [-lenC, la, he, hn1, hn2]); (repeat' (first | refine awp_seq ?_ | (refine awp_region tabOk ?_; simp [-lenC, la, he, hn1, hn2]) | (refine awp_if ?_; simp [-lenC, la, he, hn1, hn2]) | refine awp_block ?_ | refine And.intro ?_ ?_ | intro _ | (refine awp_skip ?_; simp [-lenC, la, he, hn1, hn2]) | (refine awp_ret ?_; simp [-lenC, la, he, hn1, hn2]) | (refine awp_exit ?_; simp [-lenC, la, he, hn1, hn2]))))
  refine awp_loop_at (α := {i : Nat // i ≤ h.length}) (fun i => [(0, .c (.sc a)), (5, .c (.sc (.sl H.length 0 1 h.length h.length))), (22, .c (.sc a)), (23, .c (.sc (.int .i64 h.length))), (24, .c (.sc (.int .i64 i.1)))])
    (fun i => H ++ .own (hdg g h.length i.1) :: rw2 h.length F i.1) (fun i => h.length - i.1) ⟨0, by omega⟩ (wk_tlE (by simp [hdg_zero, rw2]) (by simp)) ?_
  rintro ⟨i, hi⟩
  by_cases hlt : i < h.length
  · obtain ⟨x, hx⟩ := at_lt hlt
    obtain ⟨id, off, cap, cs, rfl, hcap, hc, hrow⟩ := ha.row hlt
    obtain ⟨r1, r2⟩ := hrow i x hx
    have wi := wrapS i (by omega)
    rw [enc_def] at r1
    obtain ⟨K0, hK0⟩ : ∃ K0, K0 = H ++ .own (hdg g h.length i) :: rw2 h.length F i := ⟨_, rfl⟩
    have kl0 : K0.length = H.length + 1 + 2 * i := by rw [hK0]; simp; omega
    have kg0 : ∀ M : List Blk, (K0 ++ M)[H.length]? = some (.own (hdg g h.length i)) := fun M => by rw [hK0, List.append_assoc]; simp
    have kc0 : ∀ M : List Blk, Blk.cells? (K0 ++ M)[id]? = some cs := fun M => by rw [hK0, List.append_assoc]; exact lowc_of hc _
    have kc00 := kc0 []
    rw [List.append_nil] at kc00
    have ks0 : ∀ (M : List Blk) (b : Blk), (K0 ++ M).set H.length b = K0.set H.length b ++ M := fun M b => setlow' (by omega)
    have kset : K0.set H.length (.own (hdg g h.length (i + 1))) = H ++ .own (hdg g h.length (i + 1)) :: rw2 h.length F i := by rw [hK0]; simp
    have hgi : g i = K0.length + 1 := by rw [hg, kl0]; omega
    have hst := hdg_set (g := g) hlt
    rw [hgi] at hst
    rw [← hK0]
    have hicap : i ≤ cap := by omega
    have hicap' : (i : Int) ≤ cap := by omega
    have hi0 : ¬(i : Int) < 0 := by omega
    have hlt1 : i + 1 ≤ h.length := hlt
    (repeat' (first | refine awp_seq ?_ | (refine awp_region tabOk ?_; simp [hlt, hn3, hn1, kg0, kc0, kc00, ks0, hst, r1, r2, hicap, hicap', hi0, hlt1]) | (refine awp_if ?_; simp [hlt, hn3, hn1, kg0, kc0, kc00, ks0, hst, r1, r2, hicap, hicap', hi0, hlt1]) | refine awp_block ?_ | refine And.intro ?_ ?_ | intro _ | (refine awp_skip ?_; simp [hlt, hn3, hn1, kg0, kc0, kc00, ks0, hst, r1, r2, hicap, hicap', hi0, hlt1]) | (refine awp_ret ?_; simp [hlt, hn3, hn1, kg0, kc0, kc00, ks0, hst, r1, r2, hicap, hicap', hi0, hlt1]) | (refine awp_exit ?_; simp [hlt, hn3, hn1, kg0, kc0, kc00, ks0, hst, r1, r2, hicap, hicap', hi0, hlt1])))
    obtain ⟨K, hK⟩ : ∃ K, K = H ++ .own (hdg g h.length (i + 1)) :: rw2 h.length F i := ⟨_, rfl⟩
    have kl : K.length = H.length + 1 + 2 * i := by rw [hK]; simp; omega
    have kll : K0.length = K.length := by omega
    have kg : ∀ M : List Blk, (K ++ M)[H.length]? = some (.own (hdg g h.length (i + 1))) := fun M => by rw [hK, List.append_assoc]; simp
    have kc : ∀ M : List Blk, Blk.cells? (K ++ M)[id]? = some cs := fun M => by rw [hK, List.append_assoc]; exact lowc_of hc _
    have hA : ∀ b ∈ (.own (hdg g h.length (i + 1)) :: rw2 h.length F i), LowB (K.length + 2) b := fun b hb => by
      rcases List.mem_cons.1 hb with rfl | hb
      · exact hdg_low fun j hj => by rw [hg]; omega
      · exact rw2_low b hb
    have hk0 := hdg_at (g := g) (k := i + 1) hlt
    rw [if_pos (by omega), hgi, kll] at hk0
    obtain ⟨_, hk0'⟩ := List.getElem?_eq_some_iff.1 hk0
    have hHK : ∀ ks top, mStd K.length ks top H.length = H.length := fun ks top => mStd_low (by omega)
    have hidl := cells_lt hc
    have hid : ∀ ks top, mStd K.length ks top id = id := fun ks top => mStd_low (by omega)
    refine awp_loop_at (α := {k : Nat // k ≤ i}) (fun k => [(0, .c (.sc (.sl id off 3 h.length cap))), (5, .c (.sc (.sl H.length 0 1 h.length h.length))), (22, .c (.sc (.sl id off 3 h.length cap))), (23, .c (.sc (.int .i64 h.length))), (24, .c (.sc (.int .i64 i))), (6, .c (.sc (.int .i64 i))), (7, .c (.sc (.ptr K.length 0))), (37, .c (.sc (.sl id off 3 i cap))), (38, .c (.sc (.int .i64 i))), (39, .c (.sc (.int .i64 k.1)))])
      (fun k => K ++ [.own [.int .i64 x.p, .int .i64 x.k, .int .i64 x.m], .own (fnB h.length (aw h i k.1))]) (fun k => i - k.1) ⟨0, by omega⟩ (wk_tlE (by rw [kset, hK]; simp [aw]) (by simp [kll])) ?_
    rintro ⟨k, hk⟩
    by_cases hki : k < i
    · obtain ⟨y, hy⟩ := at_lt (show k < h.length by omega)
      obtain ⟨y1, y2⟩ := hrow k y hy
      have wk := wrapS k (by omega)
      rw [enc_def] at y1
      have hdd := DD_at hR hki hy hx
      obtain ⟨xp, xk, xm⟩ := x
      obtain ⟨yp, yk, ym⟩ := y
      simp only at hdd y1 r1 ⊢
      have hki' : (k : Int) < i := by omega
      have hkn : k < h.length := by omega
      have hkn' : (k : Int) < h.length := by omega
      have hkn1 : k + 1 ≤ h.length := hkn
      have f1 := fnB_set (aw h i k) hkn true
      rw [am_0] at f1
      have hkk := hdg_at (g := g) (k := i + 1) hkn
      rw [if_pos (by omega)] at hkk
      obtain ⟨_, hkk'⟩ := List.getElem?_eq_some_iff.1 hkk
      have kr : ∀ M : List Blk, (K ++ M)[g k]? = some (.own (fnB h.length (fun x => cau h x k))) := fun M => by
        rw [hK, List.append_assoc, hg, List.getElem?_append_right (by omega), show H.length + 1 + (2 * k + 1) - H.length = (2 * k + 1) + 1 by omega, List.cons_append, List.getElem?_cons_succ, List.getElem?_append_left (by simp; omega), rw2_at hki, hF]
      have hcase : (yp = xp ∨ (¬yp = xp ∧ xk = 3 ∧ yk = 2 ∧ ym = xm)) ∨ (¬yp = xp ∧ ¬xk = 3) ∨ (¬yp = xp ∧ xk = 3 ∧ ¬yk = 2) ∨ (¬yp = xp ∧ xk = 3 ∧ yk = 2 ∧ ¬ym = xm) := by omega
      rcases hcase with (e1 | ⟨e1, e2, e3, e4⟩) | ⟨e1, e2⟩ | ⟨e1, e2, e3⟩ | ⟨e1, e2, e3, e4⟩
      case' inl.inl =>
        have hd := hdd.2 (.inl e1)
        (repeat' (first | refine awp_seq ?_ | (refine awp_region tabOk ?_; simp [hki, kc, y1, y2, eq_true e1, kg, hlt, hk0, hk0', hkn, hkn', f1, hkn1]) | (refine awp_if ?_; simp [hki, kc, y1, y2, eq_true e1, kg, hlt, hk0, hk0', hkn, hkn', f1, hkn1]) | refine awp_block ?_ | refine And.intro ?_ ?_ | intro _ | (refine awp_skip ?_; simp [hki, kc, y1, y2, eq_true e1, kg, hlt, hk0, hk0', hkn, hkn', f1, hkn1]) | (refine awp_ret ?_; simp [hki, kc, y1, y2, eq_true e1, kg, hlt, hk0, hk0', hkn, hkn', f1, hkn1]) | (refine awp_exit ?_; simp [hki, kc, y1, y2, eq_true e1, kg, hlt, hk0, hk0', hkn, hkn', f1, hkn1])))
      case' inl.inr =>
        have hd := hdd.2 (.inr ⟨e3, e2, e4⟩)
        (repeat' (first | refine awp_seq ?_ | (refine awp_region tabOk ?_; simp [hki, kc, y1, y2, e1, eq_true e2, eq_true e3, eq_true e4, kg, hlt, hk0, hk0', hkn, hkn', f1, hkn1]) | (refine awp_if ?_; simp [hki, kc, y1, y2, e1, eq_true e2, eq_true e3, eq_true e4, kg, hlt, hk0, hk0', hkn, hkn', f1, hkn1]) | refine awp_block ?_ | refine And.intro ?_ ?_ | intro _ | (refine awp_skip ?_; simp [hki, kc, y1, y2, e1, eq_true e2, eq_true e3, eq_true e4, kg, hlt, hk0, hk0', hkn, hkn', f1, hkn1]) | (refine awp_ret ?_; simp [hki, kc, y1, y2, e1, eq_true e2, eq_true e3, eq_true e4, kg, hlt, hk0, hk0', hkn, hkn', f1, hkn1]) | (refine awp_exit ?_; simp [hki, kc, y1, y2, e1, eq_true e2, eq_true e3, eq_true e4, kg, hlt, hk0, hk0', hkn, hkn', f1, hkn1])))
      case' inr.inl =>
        have hd : ¬DD h k i := fun d => by have := hdd.1 d; omega
        (repeat' (first | refine awp_seq ?_ | (refine awp_region tabOk ?_; simp [hki, kc, y1, y2, e1, e2, wk]) | (refine awp_if ?_; simp [hki, kc, y1, y2, e1, e2, wk]) | refine awp_block ?_ | refine And.intro ?_ ?_ | intro _ | (refine awp_skip ?_; simp [hki, kc, y1, y2, e1, e2, wk]) | (refine awp_ret ?_; simp [hki, kc, y1, y2, e1, e2, wk]) | (refine awp_exit ?_; simp [hki, kc, y1, y2, e1, e2, wk])))
        exact ⟨k + 1, by omega, by omega, by rw [← aw_no hd]; exact wk_gclA2 hK hA [0, 1] rfl rfl (gcOk_of (by decide) (by simp)) rfl (by simp [hHK, hid, wk])⟩
      case' inr.inr.inl =>
        have hd : ¬DD h k i := fun d => by have := hdd.1 d; omega
        (repeat' (first | refine awp_seq ?_ | (refine awp_region tabOk ?_; simp [hki, kc, y1, y2, e1, eq_true e2, e3, wk]) | (refine awp_if ?_; simp [hki, kc, y1, y2, e1, eq_true e2, e3, wk]) | refine awp_block ?_ | refine And.intro ?_ ?_ | intro _ | (refine awp_skip ?_; simp [hki, kc, y1, y2, e1, eq_true e2, e3, wk]) | (refine awp_ret ?_; simp [hki, kc, y1, y2, e1, eq_true e2, e3, wk]) | (refine awp_exit ?_; simp [hki, kc, y1, y2, e1, eq_true e2, e3, wk])))
        exact ⟨k + 1, by omega, by omega, by rw [← aw_no hd]; exact wk_gclA2 hK hA [0, 1] rfl rfl (gcOk_of (by decide) (by simp)) rfl (by simp [hHK, hid, wk])⟩
      case' inr.inr.inr =>
        have hd : ¬DD h k i := fun d => by have := hdd.1 d; omega
        (repeat' (first | refine awp_seq ?_ | (refine awp_region tabOk ?_; simp [hki, kc, y1, y2, e1, eq_true e2, eq_true e3, e4, wk]) | (refine awp_if ?_; simp [hki, kc, y1, y2, e1, eq_true e2, eq_true e3, e4, wk]) | refine awp_block ?_ | refine And.intro ?_ ?_ | intro _ | (refine awp_skip ?_; simp [hki, kc, y1, y2, e1, eq_true e2, eq_true e3, e4, wk]) | (refine awp_ret ?_; simp [hki, kc, y1, y2, e1, eq_true e2, eq_true e3, e4, wk]) | (refine awp_exit ?_; simp [hki, kc, y1, y2, e1, eq_true e2, eq_true e3, e4, wk])))
        exact ⟨k + 1, by omega, by omega, by rw [← aw_no hd]; exact wk_gclA2 hK hA [0, 1] rfl rfl (gcOk_of (by decide) (by simp)) rfl (by simp [hHK, hid, wk])⟩
      all_goals
        refine awp_loop_at (α := {p : Nat // p ≤ k}) (fun p => [(0, .c (.sc (.sl id off 3 h.length cap))), (5, .c (.sc (.sl H.length 0 1 h.length h.length))), (22, .c (.sc (.sl id off 3 h.length cap))), (23, .c (.sc (.int .i64 h.length))), (24, .c (.sc (.int .i64 i))), (6, .c (.sc (.int .i64 i))), (7, .c (.sc (.ptr K.length 0))), (37, .c (.sc (.sl id off 3 i cap))), (38, .c (.sc (.int .i64 i))), (39, .c (.sc (.int .i64 k))), (8, .c (.sc (.int .i64 k))), (72, .c (.sc (.int .i64 k))), (73, .c (.sc (.int .i64 p.1)))])
          (fun p => K ++ [.own [.int .i64 xp, .int .i64 xk, .int .i64 xm], .own (fnB h.length (am h i k p.1))]) (fun p => k - p.1) ⟨0, by omega⟩ (wk_gclA2 hK hA [0, 1] rfl rfl (gcOk_of (by decide) (by simp)) rfl (by simp [hHK, hid])) ?_
        rintro ⟨p, hp⟩
        by_cases hpk : p < k
        · have wp := wrapS p (by omega)
          have hpk' : (p : Int) < k := by omega
          have hpn : p < h.length := by omega
          have hpn' : (p : Int) < h.length := by omega
          have hpn1 : p + 1 ≤ h.length := hpn
          have b1 := fnB_at (am h i k p) hpn
          obtain ⟨_, b1'⟩ := List.getElem?_eq_some_iff.1 b1
          have b2 := fnB_at (fun x => cau h x k) hpn
          obtain ⟨_, b2'⟩ := List.getElem?_eq_some_iff.1 b2
          have b3 := fnB_set (am h i k p) hpn (am h i k p p || cau h p k)
          rw [am_step] at b3
          (repeat' (first | refine awp_seq ?_ | (refine awp_region tabOk ?_; simp [hpk, hpk']) | (refine awp_if ?_; simp [hpk, hpk']) | refine awp_block ?_ | refine And.intro ?_ ?_ | intro _ | (refine awp_skip ?_; simp [hpk, hpk']) | (refine awp_ret ?_; simp [hpk, hpk']) | (refine awp_exit ?_; simp [hpk, hpk'])))
          refine awp_draw tabOk mixed [] (by kernel_rfl) ?_
          cases hb1 : am h i k p p <;> cases hb2 : cau h p k <;> rw [hb1, hb2] at b3 <;> simp [kg, kr, hlt, hk0, hk0', hkk, hkk', hkn, hkn', hpn, hpn', hpn1, b1, b1', b2, b2', hb1, hb2] at b3 ⊢ <;> (repeat' (first | refine awp_seq ?_ | (refine awp_region tabOk ?_; simp [wp]) | (refine awp_if ?_; simp [wp]) | refine awp_block ?_ | refine And.intro ?_ ?_ | intro _ | (refine awp_skip ?_; simp [wp]) | (refine awp_ret ?_; simp [wp]) | (refine awp_exit ?_; simp [wp]))) <;> exact ⟨p + 1, by omega, by omega, wk_tlE (by rw [b3]) (by simp [wp])⟩
        · obtain rfl : p = k := by omega
          (repeat' (first | refine awp_seq ?_ | (refine awp_region tabOk ?_; simp) | (refine awp_if ?_; simp) | refine awp_block ?_ | refine And.intro ?_ ?_ | intro _ | (refine awp_skip ?_; simp) | (refine awp_ret ?_; simp) | (refine awp_exit ?_; simp)))
          exact ⟨p + 1, by omega, by omega, wk_tlE (by rw [am_k hd]) (by simp [wk])⟩
    · obtain rfl : k = i := by omega
      have haw : aw h k k = F k := by rw [hF]; funext x; exact aw_cau k x
      (repeat' (first | refine awp_seq ?_ | (refine awp_region tabOk ?_; simp) | (refine awp_if ?_; simp) | refine awp_block ?_ | refine And.intro ?_ ?_ | intro _ | (refine awp_skip ?_; simp) | (refine awp_ret ?_; simp) | (refine awp_exit ?_; simp)))
      exact ⟨k + 1, by omega, by omega, wk_gclA2 hK hA [0, 1] rfl rfl (gcOk_of (L' := [.dead, .own (fnB h.length (aw h k k))]) (by decide) (by simp)) (by rw [hK, haw]; simp [rw2]) (by simp [hHK, hid, wi])⟩
  · obtain rfl : i = h.length := by omega
    obtain ⟨K, hK⟩ : ∃ K, K = H ++ .own (hdg g h.length h.length) :: rw2 h.length F h.length := ⟨_, rfl⟩
    have kl : K.length = H.length + 1 + 2 * h.length := by rw [hK]; simp; omega
    have kg : ∀ M : List Blk, (K ++ M)[H.length]? = some (.own (hdg g h.length h.length)) := fun M => by rw [hK, List.append_assoc]; simp
    have hA : ∀ b ∈ (.own (hdg g h.length h.length) :: rw2 h.length F h.length), LowB K.length b := fun b hb => by
      rcases List.mem_cons.1 hb with rfl | hb
      · exact hdg_low fun j hj => by rw [hg]; omega
      · exact rw2_low b hb
    have hHK : ∀ ks top, mStd K.length ks top H.length = H.length := fun ks top => mStd_low (by omega)
    have hraK : ∀ ks top, renS (mStd K.length ks top) a = a := by
      have := (ha.app (.own (hdg g h.length h.length) :: rw2 h.length F h.length)).ren
      rw [← hK] at this
      exact this
    rw [← hK]
    obtain ⟨c, hcc⟩ : ∃ c, c = cau h := ⟨_, rfl⟩
    rw [← hcc] at q
    (repeat' (first | refine awp_seq ?_ | (refine awp_region tabOk ?_; simp [-lenC, la]) | (refine awp_if ?_; simp [-lenC, la]) | refine awp_block ?_ | refine And.intro ?_ ?_ | intro _ | (refine awp_skip ?_; simp [-lenC, la]) | (refine awp_ret ?_; simp [-lenC, la]) | (refine awp_exit ?_; simp [-lenC, la])))
    refine awp_loop_at (α := {i : Nat // i ≤ h.length}) (fun i => [(0, .c (.sc a)), (5, .c (.sc (.sl H.length 0 1 h.length h.length))), (11, .c (.sc (gV 2 K.length (prU c h.length i.1)))), (102, .c (.sc (.int .i64 h.length))), (103, .c (.sc (.int .i64 i.1)))])
      (fun i => K ++ [gB Pa.enc (prU c h.length i.1)]) (fun i => h.length - i.1) ⟨0, by omega⟩ (wk_gclA0 hK hA [9] (gcOk_of (by decide) (by simp [prU])) (by simp [prU, hHK, hraK])) ?_
    rintro ⟨i, hi⟩
    by_cases hin : i < h.length
    · have wi := wrapS i (by omega)
      have hin' : (i : Int) < h.length := by omega
      (repeat' (first | refine awp_seq ?_ | (refine awp_region tabOk ?_; simp [-lenC, la, hin, hin']) | (refine awp_if ?_; simp [-lenC, la, hin, hin']) | refine awp_block ?_ | refine And.intro ?_ ?_ | intro _ | (refine awp_skip ?_; simp [-lenC, la, hin, hin']) | (refine awp_ret ?_; simp [-lenC, la, hin, hin']) | (refine awp_exit ?_; simp [-lenC, la, hin, hin'])))
      refine awp_loop_at (α := {j : Nat // j ≤ h.length}) (fun j => [(0, .c (.sc a)), (5, .c (.sc (.sl H.length 0 1 h.length h.length))), (11, .c (.sc (gV 2 K.length (prU c h.length i ++ row c i j.1)))), (102, .c (.sc (.int .i64 h.length))), (103, .c (.sc (.int .i64 i))), (12, .c (.sc (.int .i64 i))), (107, .c (.sc (.int .i64 h.length))), (108, .c (.sc (.int .i64 j.1)))])
        (fun j => K ++ [gB Pa.enc (prU c h.length i ++ row c i j.1)]) (fun j => h.length - j.1) ⟨0, by omega⟩ (wk_tlE (by simp [row]) (by simp [row])) ?_
      rintro ⟨j, hj⟩
      by_cases hjn : j < h.length
      · have wj := wrapS j (by omega)
        have hjn' : (j : Int) < h.length := by omega
        have hkk := hdg_at (g := g) (k := h.length) hjn
        rw [if_pos hjn] at hkk
        obtain ⟨_, hkk'⟩ := List.getElem?_eq_some_iff.1 hkk
        have kr : ∀ M : List Blk, (K ++ M)[g j]? = some (.own (fnB h.length (fun x => cau h x j))) := fun M => by
          rw [hK, List.append_assoc, hg, List.getElem?_append_right (by omega), show H.length + 1 + (2 * j + 1) - H.length = (2 * j + 1) + 1 by omega, List.cons_append, List.getElem?_cons_succ, List.getElem?_append_left (by simp; omega), rw2_at hjn, hF]
        have b1 := fnB_at (fun x => cau h x j) hin
        obtain ⟨_, b1'⟩ := List.getElem?_eq_some_iff.1 b1
        have hcij : cau h i j = c i j := by rw [hcc]
        simp only [hcij] at b1 b1'
        have hrow : prU c h.length i ++ row c i (j + 1) = (prU c h.length i ++ row c i j) ++ if c i j then [⟨i, j⟩] else [] := by rw [List.append_assoc]; rfl
        have hlen : (prU c h.length i ++ row c i j).length ≤ 3660 := by
          have h1 := prU_len c h.length i
          have h2 := row_len c i j
          have h3 : i * h.length ≤ 60 * 60 := Nat.mul_le_mul (by omega) hl
          rw [List.length_append]; omega
        cases hb : c i j with
        | true =>
          rw [hb] at b1 b1'
          rw [hb, if_pos rfl] at hrow
          cases hl2 : prU c h.length i ++ row c i j with
          | nil =>
            rw [hl2] at hrow
            (repeat' (first | refine awp_seq ?_ | (refine awp_region tabOk ?_; simp [hjn, hjn', hin, hin', kg, hkk, hkk', kr, b1, b1', maxLen, wj]) | (refine awp_if ?_; simp [hjn, hjn', hin, hin', kg, hkk, hkk', kr, b1, b1', maxLen, wj]) | refine awp_block ?_ | refine And.intro ?_ ?_ | intro _ | (refine awp_skip ?_; simp [hjn, hjn', hin, hin', kg, hkk, hkk', kr, b1, b1', maxLen, wj]) | (refine awp_ret ?_; simp [hjn, hjn', hin, hin', kg, hkk, hkk', kr, b1, b1', maxLen, wj]) | (refine awp_exit ?_; simp [hjn, hjn', hin, hin', kg, hkk, hkk', kr, b1, b1', maxLen, wj])))
            refine ⟨j + 1, by omega, by omega, ?_⟩
            rw [hrow]
            exact wk_gclA hK hA [2] (gcOk_of (by decide) (by simp [gB, Pa.enc])) rfl (by simp [hHK, hraK, wj])
          | cons o O =>
            rw [hl2] at hrow hlen
            obtain ⟨OF, hOF, hgB, hOFl, hOFt, hOFr⟩ := gB_own plen (fun _ _ => rfl) o O
            rw [List.length_cons] at hlen
            have hno : ¬O.length + 1 + 1 ≤ O.length + 1 := by omega
            have hml : (O.length + 1 + 1) * 16 ≤ 140737488355328 := by omega
            have hml1 : O.length + 1 + 1 ≤ 9223372036854775807 := by omega
            (repeat' (first | refine awp_seq ?_ | (refine awp_region tabOk ?_; simp [hjn, hjn', hin, hin', kg, hkk, hkk', kr, b1, b1', maxLen, wj, hgB, hno, hml, hml1, hOFl, hOFt]) | (refine awp_if ?_; simp [hjn, hjn', hin, hin', kg, hkk, hkk', kr, b1, b1', maxLen, wj, hgB, hno, hml, hml1, hOFl, hOFt]) | refine awp_block ?_ | refine And.intro ?_ ?_ | intro _ | (refine awp_skip ?_; simp [hjn, hjn', hin, hin', kg, hkk, hkk', kr, b1, b1', maxLen, wj, hgB, hno, hml, hml1, hOFl, hOFt]) | (refine awp_ret ?_; simp [hjn, hjn', hin, hin', kg, hkk, hkk', kr, b1, b1', maxLen, wj, hgB, hno, hml, hml1, hOFl, hOFt]) | (refine awp_exit ?_; simp [hjn, hjn', hin, hin', kg, hkk, hkk', kr, b1, b1', maxLen, wj, hgB, hno, hml, hml1, hOFl, hOFt])))
            refine ⟨j + 1, by omega, by omega, ?_⟩
            rw [hrow, gB_snoc, gV_snoc, ← hOF]
            exact wk_gclA hK hA [2] (gcOk_of (by decide) (by simp [hOFr, Pa.enc])) rfl (by simp [hHK, hraK, wj])
        | false =>
          rw [hb] at b1 b1'
          rw [hb, if_neg (by decide), List.append_nil] at hrow
          (repeat' (first | refine awp_seq ?_ | (refine awp_region tabOk ?_; simp [hjn, hjn', hin, hin', kg, hkk, hkk', kr, b1, b1', wj]) | (refine awp_if ?_; simp [hjn, hjn', hin, hin', kg, hkk, hkk', kr, b1, b1', wj]) | refine awp_block ?_ | refine And.intro ?_ ?_ | intro _ | (refine awp_skip ?_; simp [hjn, hjn', hin, hin', kg, hkk, hkk', kr, b1, b1', wj]) | (refine awp_ret ?_; simp [hjn, hjn', hin, hin', kg, hkk, hkk', kr, b1, b1', wj]) | (refine awp_exit ?_; simp [hjn, hjn', hin, hin', kg, hkk, hkk', kr, b1, b1', wj])))
          exact ⟨j + 1, by omega, by omega, wk_tlE (by rw [hrow]) (by simp [wj, hrow])⟩
      · obtain rfl : j = h.length := by omega
        (repeat' (first | refine awp_seq ?_ | (refine awp_region tabOk ?_; simp) | (refine awp_if ?_; simp) | refine awp_block ?_ | refine And.intro ?_ ?_ | intro _ | (refine awp_skip ?_; simp) | (refine awp_ret ?_; simp) | (refine awp_exit ?_; simp)))
        exact ⟨i + 1, by omega, by omega, wk_tlE rfl (by simp [wi]; rfl)⟩
    · obtain rfl : i = h.length := by omega
      have hq := q (gV 2 K.length (prU c h.length h.length)) ((.own (hdg g h.length h.length) :: rw2 h.length F h.length) ++ [gB Pa.enc (prU c h.length h.length)]) (by rw [← List.append_assoc, ← hK]; exact GSl.own plen (by simp))
      rw [← List.append_assoc, ← hK] at hq
      (repeat' (first | refine awp_seq ?_ | (refine awp_region tabOk ?_; simp) | (refine awp_if ?_; simp) | refine awp_block ?_ | refine And.intro ?_ ?_ | intro _ | (refine awp_skip ?_; simp) | (refine awp_ret ?_; simp) | (refine awp_exit ?_; simp)))
      exact ⟨_, _, GcTo.refl (by simp; omega), hq⟩
end Go.Proofs.Ytjjhogleiolngaa
/-! Of -/
namespace Go.Proofs.Ytjjhogleiolngaa
set_option linter.unusedSimpArgs false
set_option linter.unusedVariables false
open Go.RowKit
attribute [local irreducible] AWP ACalls Wk GcTo
attribute [local simp] tab3 ti3 tab4 ti4 tab24 ti24 tab28 ti28 tab29 ti29 tab135 ti135 tab36 ti36 tab38 ti38 tab40 ti40 tab44 ti44
open Hi Ct Od Po Cl
theorem scan_of {h : List Ev} : ∀ n i, (∀ j x, i ≤ j → h[j]? = some x → inB x ∧ okEv (h.take j) x) → scanE h n i = 0
  | 0, _, _ => rfl
  | n + 1, i, hh => by
    cases hx : h[i]? with
    | none => simp only [scanE, hx]
    | some x =>
      obtain ⟨h1, h2⟩ := hh i x (Nat.le_refl _) hx
      have : evE (h.take i) x = 0 := by unfold evE; rw [if_pos h1, if_pos h2]
      simp only [scanE, hx]
      rw [if_pos this]
      exact scan_of n (i + 1) fun j y hj hy => hh j y (by omega) hy
theorem hErr_take {h : List Ev} (he : hErr h = 0) (m : Nat) : hErr (h.take m) = 0 := by
  have hR := right_of he
  have hl := hR.len
  unfold hErr
  rw [if_neg (by rw [List.length_take]; omega)]
  refine scan_of _ _ fun j x _ hx => ?_
  by_cases hj : j < m
  · rw [List.getElem?_take_of_lt hj] at hx
    have := hR.ev j x hx
    rw [List.take_take, Nat.min_eq_left (by omega)]
    exact this
  · rw [List.getElem?_eq_none (by rw [List.length_take]; omega)] at hx; cases hx
variable {h : List Ev}
theorem Rl_pr (x y : Nat) : Rl (prU (cau h) h.length h.length) x y ↔ cau h x y = true := by
  unfold Rl
  constructor
  · rintro ⟨p, hp, h1, h2⟩
    obtain ⟨i, j, hi, hj, rfl, hc⟩ := prU_mem.1 hp
    obtain rfl : i = x := Int.ofNat.inj h1
    obtain rfl : j = y := Int.ofNat.inj h2
    exact hc
  · intro hc
    have := cau_lt hc
    exact ⟨⟨x, y⟩, prU_mem.2 ⟨x, y, by omega, this.2, rfl, hc⟩, rfl, rfl⟩
theorem clo_pr : clo (prU (cau h) h.length h.length) = cau h := by
  funext x y
  have key : Relation.TransGen (Rl (prU (cau h) h.length h.length)) x y ↔ Relation.TransGen (DD h) x y := by
    constructor
    · intro t
      induction t with
      | single d => exact (cau_iff h _ _).1 ((Rl_pr _ _).1 d)
      | tail _ d ih => exact ih.trans ((cau_iff h _ _).1 ((Rl_pr _ _).1 d))
    · intro t
      exact .single ((Rl_pr _ _).2 ((cau_iff h _ _).2 t))
  unfold clo cau
  exact decide_eq_decide.2 key
theorem po_pr (hn : h.length ≤ 12) : poErr (h.length : Int) (prU (cau h) h.length h.length) = 0 := by
  refine poErr_0 (by omega) ?_ ?_
  · have h1 := prU_len (cau h) h.length h.length
    have h2 : h.length * h.length ≤ 12 * 12 := Nat.mul_le_mul hn hn
    unfold mErr
    rw [if_neg (by omega), if_neg (by omega), if_pos]
    intro p hp
    obtain ⟨i, j, hi, hj, rfl, _⟩ := prU_mem.1 hp
    unfold inP
    simp only
    omega
  · rintro ⟨k, _, hk⟩
    rw [clo_pr] at hk
    have := cau_lt hk
    omega
theorem len_eq (he : hErr h = 0) : (dnS (h.length : Int).toNat (prU (cau h) h.length h.length)).length = (fl (zz h) (good h) (rm h)).length := by
  unfold dnS rm
  rw [Int.toNat_natCast, clo_pr]
  exact lat_count he
set_option maxRecDepth 100000 in
set_option maxHeartbeats 2000000 in
theorem lattice_law {H : List Blk} {a : Sc} {l : List Ev} {Q : AV → List Blk → Prop} (ha : ESl H a l) (hn : l.length ≤ 9223372036854775807) (q : Q (.c (.sc (.bool true))) H) :
    ACalls Try.prog 10 [.sc a] H Q := by
  refine acalls_of tabOk Try.func10 (by kernel_rfl) rfl (by kernel_rfl) ?_
  (repeat' (first | refine awp_seq ?_ | (refine awp_region tabOk ?_; simp) | (refine awp_if ?_; simp) | refine awp_block ?_ | refine And.intro ?_ ?_ | intro _ | (refine awp_skip ?_; simp) | (refine awp_ret ?_; simp) | (refine awp_exit ?_; simp)))
  refine grownT ?_
  ((try simp); (repeat' (first | refine awp_seq ?_ | (refine awp_region tabOk ?_; simp) | (refine awp_if ?_; simp) | refine awp_block ?_ | refine And.intro ?_ ?_ | intro _ | (refine awp_skip ?_; simp) | (refine awp_ret ?_; simp) | (refine awp_exit ?_; simp))))
  refine historyOf ha hn ?_
  have he := histL_ok l
  generalize histL l = h at *
  have hl := (right_of he).len
  have lh : lenC ⟨.slice 135, 1, 24, .sc .nils, none⟩ (.sc (gV 3 H.length h)) = some (h.length : Int) := gV_lenC rfl
  obtain ⟨K, hK⟩ : ∃ K, K = H ++ [gB Ev.enc h] := ⟨_, rfl⟩
  have k0 : ESl K (gV 3 H.length h) h := by rw [hK]; exact GSl.own elen (by simp)
  have hKH : ∃ M, K = H ++ M := ⟨_, hK⟩
  rw [← hK]
  rcases Nat.lt_or_ge 12 h.length with h12 | h12
  case' inl =>
    have hV := gV_ne (es := 3) (id := H.length) (xs := h) (by omega)
    have h12' : (12 : Int) < h.length := by omega
    have h12a : 12 ≤ h.length := by omega
    have h12b : (12 : Int) ≤ h.length := by omega
    rw [hV] at k0 ⊢
    have hs : ESl K (.sl H.length 0 3 12 h.length) (h.take 12) := GSl.pre elen k0 (by omega)
    have he' := hErr_take he 12
    have hl12 : (h.take 12).length ≤ 12 := by rw [List.length_take]; omega
    generalize hh : h.take 12 = g at *
    ((try simp [h12, h12', h12a, h12b]); (repeat' (first | refine awp_seq ?_ | (refine awp_region tabOk ?_; simp [h12, h12', h12a, h12b]) | (refine awp_if ?_; simp [h12, h12', h12a, h12b]) | refine awp_block ?_ | refine And.intro ?_ ?_ | intro _ | (refine awp_skip ?_; simp [h12, h12', h12a, h12b]) | (refine awp_ret ?_; simp [h12, h12', h12a, h12b]) | (refine awp_exit ?_; simp [h12, h12', h12a, h12b]))))
    generalize Sc.sl H.length 0 3 12 h.length = t3 at *
  case' inr =>
    have hs := k0
    have he' := he
    have hl12 : h.length ≤ 12 := h12
    have h12' : ¬(12 : Int) < h.length := by omega
    have h12'' : ¬12 < h.length := by omega
    obtain ⟨g, hg⟩ : ∃ g, g = h := ⟨_, rfl⟩
    ((try simp [-lenC, lh, h12', h12'']); (repeat' (first | refine awp_seq ?_ | (refine awp_region tabOk ?_; simp [-lenC, lh, h12', h12'']) | (refine awp_if ?_; simp [-lenC, lh, h12', h12'']) | refine awp_block ?_ | refine And.intro ?_ ?_ | intro _ | (refine awp_skip ?_; simp [-lenC, lh, h12', h12'']) | (refine awp_ret ?_; simp [-lenC, lh, h12', h12'']) | (refine awp_exit ?_; simp [-lenC, lh, h12', h12'']))))
    generalize gV 3 H.length h = t3 at *
    rw [← hg] at hs he' hl12
  all_goals
    have lt3 := hs.len (i := ti24) (e := 135) rfl
    simp only [ti24] at lt3
    refine stampAhead hs he' (fun b L hb => ?_)
    have hs1 := hs.app L
    obtain ⟨K1, hK1⟩ : ∃ K1, K1 = K ++ L := ⟨_, rfl⟩
    have hKH1 : ∃ M, K1 = H ++ M := by obtain ⟨M, hM⟩ := hKH; exact ⟨M ++ L, by rw [hK1, hM, List.append_assoc]⟩
    rw [← hK1] at hb hs1 ⊢
    ((try simp [-lenC, lt3]); (repeat' (first | refine awp_seq ?_ | (refine awp_region tabOk ?_; simp [-lenC, lt3]) | (refine awp_if ?_; simp [-lenC, lt3]) | refine awp_block ?_ | refine And.intro ?_ ?_ | intro _ | (refine awp_skip ?_; simp [-lenC, lt3]) | (refine awp_ret ?_; simp [-lenC, lt3]) | (refine awp_exit ?_; simp [-lenC, lt3]))))
    refine latDowns hb (fun hp => absurd (po_pr hl12) hp) (fun _ hp => absurd hp (by omega)) (fun _ _ b2 L2 hb2 => ?_)
    have hs2 := hs1.app L2
    obtain ⟨K2, hK2⟩ : ∃ K2, K2 = K1 ++ L2 := ⟨_, rfl⟩
    have hKH2 : ∃ M, K2 = H ++ M := by obtain ⟨M, hM⟩ := hKH1; exact ⟨M ++ L2, by rw [hK2, hM, List.append_assoc]⟩
    rw [← hK2] at hb2 hs2 ⊢
    ((try simp); (repeat' (first | refine awp_seq ?_ | (refine awp_region tabOk ?_; simp) | (refine awp_if ?_; simp) | refine awp_block ?_ | refine And.intro ?_ ?_ | intro _ | (refine awp_skip ?_; simp) | (refine awp_ret ?_; simp) | (refine awp_exit ?_; simp))))
    refine cutAll hs2 (fun hp => absurd he' hp) (fun _ hp => absurd hp (rm_12 hl12)) (fun _ _ => ?_)
    have lb2 := hb2.len (i := ti40) (e := 44) rfl
    simp only [ti40] at lb2
    rw [len_eq he'] at lb2
    have lc := gV_lenC (i := ti28) (e := 23) (es := 6) (id := K2.length) (xs := fl (zz g) (good g) (rm g)) rfl
    simp only [ti28] at lc
    ((try simp [-lenC, lb2, lc]); (repeat' (first | refine awp_seq ?_ | (refine awp_region tabOk ?_; simp [-lenC, lb2, lc]) | (refine awp_if ?_; simp [-lenC, lb2, lc]) | refine awp_block ?_ | refine And.intro ?_ ?_ | intro _ | (refine awp_skip ?_; simp [-lenC, lb2, lc]) | (refine awp_ret ?_; simp [-lenC, lb2, lc]) | (refine awp_exit ?_; simp [-lenC, lb2, lc]))))
    exact ⟨H, _, gcTo_Kn hKH2 (fun _ => rfl), q⟩
end Go.Proofs.Ytjjhogleiolngaa
/-! Og -/
namespace Go.Proofs.Ytjjhogleiolngaa
open Go.RowKit
theorem TopLattice_walk (W : World) (A : Option Addr) (n c : Nat) (he : Fit W [.slice [.int .i64, .int .i64, .int .i64]] (Value.slice A n c).cells.toList) :
    Calls Try.prog 10 #[.slice A n c] W fun e w' => e = .returned (.bool true) ∧ Below W.heap.size W w' := by
  obtain ⟨u, us, e, h1, _⟩ := Fit.cons_inv he
  have e : [Value.slice A n c] = u :: us := e
  cases e
  obtain ⟨xs, L, blk, a, hI⟩ := in_evs h1
  have hown : ∀ p ∈ [(L, blk)], ¬p.2.isOwn ∧ ∀ ρ, holds ρ W p.1 p.2 := fun p hp => by
    simp at hp; subst hp; exact ⟨hI.own, hI.hold⟩
  have hl := hI.len
  exact calls_law (lattice_law (H := [blk]) (gsl_of elen (by omega) hI (id := 0) rfl) (by simp only [maxLen] at hl; omega) rfl) (relArgs_list (vs := [.slice A n c]) ⟨hI.rel _ 0 rfl, trivial⟩) (rel_args [(L, blk)] hown) (own_args fun p hp => (hown p hp).1)
end Go.Proofs.Ytjjhogleiolngaa
