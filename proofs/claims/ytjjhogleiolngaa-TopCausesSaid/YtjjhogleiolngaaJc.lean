/- Causes: parttop.historyOf, grown. -/
import Derived.Test.YtjjhogleiolngaaJb
namespace Go.Proofs.Ytjjhogleiolngaa
set_option linter.unusedSimpArgs false
set_option linter.unusedVariables false
open Go.RowKit
attribute [local irreducible] AWP ACalls Wk GcTo
attribute [local simp] tab3 ti3 tab4 ti4 tab23 ti23 tab24 ti24 tab28 ti28 tab29 ti29 tab135 ti135
open Hi
def histS (O : List Ev) (x : Ev) : List Ev := if hErr (O ++ [x]) = 0 then O ++ [x] else O
def histL (l : List Ev) : List Ev := l.foldl histS []
theorem hist_ok : ∀ (l O : List Ev), hErr O = 0 → hErr (l.foldl histS O) = 0
  | [], _, h => h
  | x :: r, O, h => by
    rw [List.foldl_cons]
    refine hist_ok r _ ?_
    unfold histS; split <;> assumption
theorem histL_ok (l : List Ev) : hErr (histL l) = 0 := hist_ok l [] rfl
theorem hist_snoc {l : List Ev} {i : Nat} {x : Ev} (hx : l[i]? = some x) : (l.take (i + 1)).foldl histS [] = histS ((l.take i).foldl histS []) x := by
  rw [take_snoc hx, List.foldl_append]; rfl
theorem eren (f : Nat → Nat) (x : Ev) : x.enc.map (renS f) = x.enc := rfl
theorem cloneNil {H : List Blk} {Q : AV → List Blk → Prop} (q : Q (.c (.sc .nils)) H) : ACalls Try.prog 103 [.sc .nils] H Q := by
  refine acalls_of tabOk Try.func103 (by kernel_rfl) rfl (by kernel_rfl) ?_
  (repeat' (first | refine awp_seq ?_ | (refine awp_region tabOk ?_; simp) | (refine awp_if ?_; simp) | refine awp_block ?_ | refine And.intro ?_ ?_ | intro _ | (refine awp_skip ?_; simp) | (refine awp_ret ?_; simp) | (refine awp_exit ?_; simp)))
  exact ⟨H, _, GcTo.refl (Nat.le_refl _), q⟩
theorem cloneOwn {H : List Blk} {id n : Nat} {cs : List Sc} {Q : AV → List Blk → Prop} (hc : Blk.cells? H[id]? = some cs) (hl : cs.length = n * 3) (h0 : n ≠ 0) (hn : n ≤ 1000) (q : Q (.c (.sc (.sl H.length 0 3 n n))) (H ++ [.own cs])) :
    ACalls Try.prog 103 [.sc (.sl id 0 3 n n)] H Q := by
  refine acalls_of tabOk Try.func103 (by kernel_rfl) rfl (by kernel_rfl) ?_
  have h1 : n ≤ 9223372036854775807 := by omega
  have h2 : n * 24 ≤ 140737488355328 := by omega
  have h3 : cs.take (n * 3) = cs := List.take_of_length_le (by omega)
  (repeat' (first | refine awp_seq ?_ | (refine awp_region tabOk ?_; simp [hc, maxLen, h0, h1, h2, hl, h3]) | (refine awp_if ?_; simp [hc, maxLen, h0, h1, h2, hl, h3]) | refine awp_block ?_ | refine And.intro ?_ ?_ | intro _ | (refine awp_skip ?_; simp [hc, maxLen, h0, h1, h2, hl, h3]) | (refine awp_ret ?_; simp [hc, maxLen, h0, h1, h2, hl, h3]) | (refine awp_exit ?_; simp [hc, maxLen, h0, h1, h2, hl, h3])))
  exact ⟨_, _, GcTo.refl (by simp), q⟩
set_option maxRecDepth 100000 in
set_option maxHeartbeats 2000000 in
theorem historyOf {H : List Blk} {a : Sc} {l : List Ev} {Q : AV → List Blk → Prop} (ha : ESl H a l) (hn : l.length ≤ 9223372036854775807)
    (q : Q (.c (.sc (gV 3 H.length (histL l)))) (H ++ [gB Ev.enc (histL l)])) :
    ACalls Try.prog 50 [.sc a] H Q := by
  refine acalls_of tabOk Try.func50 (by kernel_rfl) rfl (by kernel_rfl) ?_
  have la := ha.len (i := ti24) (e := 135) rfl
  have hra := ha.ren
  simp only [ti24] at la
  have hgr := fun (m : Nat → Nat) (l : List Ev) => ren_gB (m := m) (enc := Ev.enc) (fun x => rfl) l
  (repeat' (first | refine awp_seq ?_ | (refine awp_region tabOk ?_; simp [-lenC, la]) | (refine awp_if ?_; simp [-lenC, la]) | refine awp_block ?_ | refine And.intro ?_ ?_ | intro _ | (refine awp_skip ?_; simp [-lenC, la]) | (refine awp_ret ?_; simp [-lenC, la]) | (refine awp_exit ?_; simp [-lenC, la])))
  refine awp_loop_at (α := {s : Nat × List Ev // s.1 ≤ l.length ∧ hErr s.2 = 0 ∧ s.2 = (l.take s.1).foldl histS []}) (fun s => [(3, .c (.sc (gV 3 H.length s.1.2))), (6, .c (.sc a)), (7, .c (.sc (.int .i64 l.length))), (8, .c (.sc (.int .i64 s.1.1)))])
    (fun s => H ++ [gB Ev.enc s.1.2]) (fun s => l.length - s.1.1) ⟨(0, []), by simp, rfl, rfl⟩ (wk_gcl0 [9] (gcOk_of (by decide) (by simp)) (by simp [hra])) ?_
  rintro ⟨⟨i, O⟩, hi, hO, hOi⟩
  simp only at hi hO hOi
  by_cases hlt : i < l.length
  · obtain ⟨x, hx⟩ := at_lt hlt
    obtain ⟨id, off, cap, cs, rfl, hcap, hc, hrow⟩ := ha.row hlt
    obtain ⟨r1, r2⟩ := hrow i x hx
    have hc2 := fun L => lowc_of hc L
    have hid : ∀ ks top, mStd H.length ks top id = id := fun ks top => mStd_low (cells_lt hc)
    have wr := wrapS i (by omega)
    have hst := hist_snoc hx
    rw [← hOi] at hst
    have hlt' : (i : Int) < l.length := by omega
    have hO60 := (right_of hO).len
    rw [enc_def] at r1
    obtain ⟨p, k, m⟩ := x
    simp only at r1
    cases O with
    | nil =>
      have hgs : gB Ev.enc [⟨p, k, m⟩] = .own [.int .i64 p, .int .i64 k, .int .i64 m] := rfl
      (repeat' (first | refine awp_seq ?_ | (refine awp_region tabOk ?_; simp [-lenC, la, hlt, hlt', hc, hc2, r1, r2]) | (refine awp_if ?_; simp [-lenC, la, hlt, hlt', hc, hc2, r1, r2]) | refine awp_block ?_ | refine And.intro ?_ ?_ | intro _ | (refine awp_skip ?_; simp [-lenC, la, hlt, hlt', hc, hc2, r1, r2]) | (refine awp_ret ?_; simp [-lenC, la, hlt, hlt', hc, hc2, r1, r2]) | (refine awp_exit ?_; simp [-lenC, la, hlt, hlt', hc, hc2, r1, r2])))
      refine awp_draw tabOk mixed [] (by kernel_rfl) ?_
      simp
      refine ⟨_, [], cloneNil ⟨rfl, by simp⟩, ?_⟩
      simp [maxLen]
      refine ⟨_, [], stampCheck (xs := [⟨p, k, m⟩]) (GSl.ownC (cs := [.int .i64 p, .int .i64 k, .int .i64 m]) (xs := [⟨p, k, m⟩]) elen (by simp) (by rfl) (by simp) (by simp)) ⟨rfl, by simp⟩, ?_⟩
      by_cases hok : hErr [⟨p, k, m⟩] = 0
      · have hs : histS [] ⟨p, k, m⟩ = [⟨p, k, m⟩] := if_pos hok
        rw [hs] at hst
        simp [hok]
        (repeat' (first | refine awp_seq ?_ | (refine awp_region tabOk ?_; simp [maxLen, wr]) | (refine awp_if ?_; simp [maxLen, wr]) | refine awp_block ?_ | refine And.intro ?_ ?_ | intro _ | (refine awp_skip ?_; simp [maxLen, wr]) | (refine awp_ret ?_; simp [maxLen, wr]) | (refine awp_exit ?_; simp [maxLen, wr])))
        refine ⟨i + 1, by omega, [⟨p, k, m⟩], ⟨by omega, hok, hst.symm⟩, ?_⟩
        rw [hgs]
        exact wk_gcl [5] (gcOk_of (by decide) (by simp)) (by simp [hid, wr])
      · have hs : histS [] ⟨p, k, m⟩ = [] := if_neg hok
        rw [hs] at hst
        simp [hok]
        (repeat' (first | refine awp_seq ?_ | (refine awp_region tabOk ?_; simp [maxLen, wr]) | (refine awp_if ?_; simp [maxLen, wr]) | refine awp_block ?_ | refine And.intro ?_ ?_ | intro _ | (refine awp_skip ?_; simp [maxLen, wr]) | (refine awp_ret ?_; simp [maxLen, wr]) | (refine awp_exit ?_; simp [maxLen, wr])))
        exact ⟨i + 1, by omega, [], ⟨by omega, hO, hst.symm⟩, wk_gcl [0] (gcOk_of (by decide) (by simp)) (by simp [hid, wr])⟩
    | cons o O =>
      obtain ⟨OF, hOF, hgB, hOFl, hOFt, hOFr⟩ := gB_own elen eren o O
      rw [List.length_cons] at hO60
      have hno : ¬O.length + 1 + 1 ≤ O.length + 1 := by omega
      have hml : (O.length + 1 + 1) * 24 ≤ 140737488355328 := by omega
      have hml1 : O.length + 1 + 1 ≤ 9223372036854775807 := by omega
      have hgs := gB_snoc (enc := Ev.enc) (o :: O) ⟨p, k, m⟩
      rw [← hOF] at hgs
      (repeat' (first | refine awp_seq ?_ | (refine awp_region tabOk ?_; simp [-lenC, la, hlt, hlt', hc, hc2, r1, r2, hgB]) | (refine awp_if ?_; simp [-lenC, la, hlt, hlt', hc, hc2, r1, r2, hgB]) | refine awp_block ?_ | refine And.intro ?_ ?_ | intro _ | (refine awp_skip ?_; simp [-lenC, la, hlt, hlt', hc, hc2, r1, r2, hgB]) | (refine awp_ret ?_; simp [-lenC, la, hlt, hlt', hc, hc2, r1, r2, hgB]) | (refine awp_exit ?_; simp [-lenC, la, hlt, hlt', hc, hc2, r1, r2, hgB])))
      refine awp_draw tabOk mixed [] (by kernel_rfl) ?_
      simp
      refine ⟨_, [.own OF], cloneOwn (cs := OF) (by simp) hOFl (by omega) (by omega) ⟨rfl, by simp⟩, by simp [Blk.isOwn], ?_⟩
      simp [maxLen, hno, hml, hml1, hOFl, hOFt]
      have hxl : ((o :: O) ++ [⟨p, k, m⟩] : List Ev).length = O.length + 1 + 1 := by simp
      have hsl : ∀ (K : List Blk) (id : Nat), K[id]? = some (.own (OF ++ [.int .i64 p, .int .i64 k, .int .i64 m])) → ESl K (.sl id 0 3 (O.length + 1 + 1) (O.length + 1 + 1)) ((o :: O) ++ [⟨p, k, m⟩]) := fun K id hK => by
        have := GSl.ownC (H := K) (id := id) (cap := O.length + 1 + 1) (cs := OF ++ [.int .i64 p, .int .i64 k, .int .i64 m]) (xs := (o :: O) ++ [⟨p, k, m⟩]) elen hK (by
          rw [hxl, List.take_of_length_le (by simp [hOFl]; omega), hOF, List.flatMap_append]; rfl) (by omega) (by rw [hxl]; simp [hOFl]; omega)
        rw [hxl] at this
        exact this
      refine ⟨_, [], stampCheck (hsl _ _ (by simp)) ⟨rfl, by simp⟩, by simp, ?_⟩
      by_cases hok : hErr ((o :: O) ++ [⟨p, k, m⟩]) = 0
      · have hs : histS (o :: O) ⟨p, k, m⟩ = (o :: O) ++ [⟨p, k, m⟩] := if_pos hok
        rw [hs] at hst
        rw [hok]
        simp
        (repeat' (first | refine awp_seq ?_ | (refine awp_region tabOk ?_; simp [maxLen, wr, hno, hml, hml1, hOFl, hOFt]) | (refine awp_if ?_; simp [maxLen, wr, hno, hml, hml1, hOFl, hOFt]) | refine awp_block ?_ | refine And.intro ?_ ?_ | intro _ | (refine awp_skip ?_; simp [maxLen, wr, hno, hml, hml1, hOFl, hOFt]) | (refine awp_ret ?_; simp [maxLen, wr, hno, hml, hml1, hOFl, hOFt]) | (refine awp_exit ?_; simp [maxLen, wr, hno, hml, hml1, hOFl, hOFt])))
        refine ⟨i + 1, by omega, (o :: O) ++ [⟨p, k, m⟩], ⟨by omega, hok, hst.symm⟩, ?_⟩
        rw [hgs, gV_snoc]
        exact wk_gcl [6] (gcOk_of (by decide) (by simp [hOFr, enc_def])) (by simp [hid, wr])
      · have hs : histS (o :: O) ⟨p, k, m⟩ = o :: O := if_neg hok
        rw [hs] at hst
        obtain ⟨e, he⟩ : ∃ e, hErr ((o :: O) ++ [⟨p, k, m⟩]) = e := ⟨_, rfl⟩
        rw [he] at hok ⊢
        simp [hok]
        (repeat' (first | refine awp_seq ?_ | (refine awp_region tabOk ?_; simp [maxLen, wr]) | (refine awp_if ?_; simp [maxLen, wr]) | refine awp_block ?_ | refine And.intro ?_ ?_ | intro _ | (refine awp_skip ?_; simp [maxLen, wr]) | (refine awp_ret ?_; simp [maxLen, wr]) | (refine awp_exit ?_; simp [maxLen, wr])))
        refine ⟨i + 1, by omega, o :: O, ⟨by omega, hO, hst.symm⟩, ?_⟩
        rw [hgB]
        exact wk_gcl [0] (gcOk_of (by decide) (by simp [hOFr])) (by simp [hid, wr])
  · obtain rfl : i = l.length := by omega
    rw [List.take_length] at hOi
    have e : O = histL l := hOi
    subst e
    (repeat' (first | refine awp_seq ?_ | (refine awp_region tabOk ?_; simp [hlt]) | (refine awp_if ?_; simp [hlt]) | refine awp_block ?_ | refine And.intro ?_ ?_ | intro _ | (refine awp_skip ?_; simp [hlt]) | (refine awp_ret ?_; simp [hlt]) | (refine awp_exit ?_; simp [hlt])))
    exact ⟨_, _, GcTo.refl (by simp), q⟩
def four : List Ev := [⟨0, 2, 0⟩, ⟨1, 3, 0⟩, ⟨1, 3, 0⟩, ⟨2, 1, 0⟩]
def three : List Ev := [⟨0, 2, 0⟩, ⟨1, 3, 0⟩, ⟨2, 1, 0⟩]
theorem hist_four : histL four = three := by decide +kernel
theorem vos_three : (vosL three).flatMap Mt.vs = [.int .i64 1, .int .i64 0, .int .i64 0, .int .i64 0, .int .i64 0, .int .i64 0, .int .i64 1, .int .i64 1, .int .i64 0, .int .i64 0, .int .i64 0, .int .i64 0, .int .i64 0, .int .i64 0, .int .i64 1, .int .i64 0, .int .i64 0, .int .i64 0] := by rfl
set_option maxRecDepth 100000 in
set_option maxHeartbeats 2000000 in
theorem grownT {H : List Blk} {Q : AV → List Blk → Prop} (q : Q (.c (.sc (.bool true))) H) :
    ACalls Try.prog 49 [] H Q := by
  refine acalls_of tabOk Try.func49 (by kernel_rfl) rfl (by kernel_rfl) ?_
  (repeat' (first | refine awp_seq ?_ | (refine awp_region tabOk ?_; simp) | (refine awp_if ?_; simp) | refine awp_block ?_ | refine And.intro ?_ ?_ | intro _ | (refine awp_skip ?_; simp) | (refine awp_ret ?_; simp) | (refine awp_exit ?_; simp)))
  refine historyOf (l := four) (GSl.ownC (cs := four.flatMap Ev.enc) elen (by simp [four, Ev.enc]) (by rfl) (by decide) (by decide)) (by decide) ?_
  rw [hist_four]
  ((try simp [three]); (repeat' (first | refine awp_seq ?_ | (refine awp_region tabOk ?_; simp [three]) | (refine awp_if ?_; simp [three]) | refine awp_block ?_ | refine And.intro ?_ ?_ | intro _ | (refine awp_skip ?_; simp [three]) | (refine awp_ret ?_; simp [three]) | (refine awp_exit ?_; simp [three]))))
  refine vectVectorsX (xs := three) (GSl.ownC (cs := three.flatMap Ev.enc) elen (by simp [three, gB]) (by rfl) (by decide) (by decide)) (fun h => absurd (by decide +kernel) h) (fun _ => ?_)
  have hV : ∀ id, gV 6 id (vosL three) = .sl id 0 6 3 3 := fun id => rfl
  have hB := gB_ne (enc := Mt.vs) (xs := vosL three) (by decide)
  rw [vos_three] at hB
  rw [hB, hV]
  ((try simp [three]); (repeat' (first | refine awp_seq ?_ | (refine awp_region tabOk ?_; simp [three]) | (refine awp_if ?_; simp [three]) | refine awp_block ?_ | refine And.intro ?_ ?_ | intro _ | (refine awp_skip ?_; simp [three]) | (refine awp_ret ?_; simp [three]) | (refine awp_exit ?_; simp [three]))))
  exact ⟨H, _, gcTo_none (fun _ => rfl), q⟩
end Go.Proofs.Ytjjhogleiolngaa
