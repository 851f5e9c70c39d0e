/- partref.Causes: the walk. -/
import Derived.Test.YtjjhogleiolngaaVg
import Derived.Test.YtjjhogleiolngaaVe
namespace Go.Proofs.Ytjjhogleiolngaa
set_option linter.unusedSimpArgs false
set_option linter.unusedVariables false
open Go.RowKit
attribute [local irreducible] AWP ACalls Wk GcTo
attribute [local simp] tab3 ti3 tab4 ti4 tab24 ti24 tab36 ti36 tab62 ti62 tab80 ti80 tab82 ti82 tab135 ti135
open Hi Cl
theorem pren (f : Nat → Nat) (x : Pa) : x.enc.map (renS f) = x.enc := rfl
open Classical in
noncomputable def cau (h : List Ev) (x y : Nat) : Bool := decide (Relation.TransGen (DD h) x y)
/-- The pairs found when i and k are next. -/
structure Cz (h : List Ev) (i k : Nat) (l : List Pa) : Prop where
  mem : ∀ p, p ∈ l ↔ ∃ x y : Nat, p = ⟨x, y⟩ ∧ DD h x y ∧ (x < i ∨ (x = i ∧ y < k))
  len : l.length ≤ 60 * i + k
theorem Cz.zero (h : List Ev) : Cz h 0 0 [] := ⟨fun p => by simp, by simp⟩
theorem Cz.row {h : List Ev} {i : Nat} {l : List Pa} (c : Cz h i 0 l) : Cz h i (i + 1) l :=
  ⟨fun p => (c.mem p).trans ⟨fun ⟨x, y, e, d, o⟩ => ⟨x, y, e, d, by omega⟩, fun ⟨x, y, e, d, o⟩ => ⟨x, y, e, d, by have := d.1; omega⟩⟩, by have := c.len; omega⟩
theorem Cz.next {h : List Ev} {i k : Nat} {l : List Pa} (c : Cz h i k l) (hk : h.length ≤ k) (hk2 : k ≤ 60) : Cz h (i + 1) 0 l :=
  ⟨fun p => (c.mem p).trans ⟨fun ⟨x, y, e, d, o⟩ => ⟨x, y, e, d, by omega⟩, fun ⟨x, y, e, d, o⟩ => ⟨x, y, e, d, by have := d.2.1; omega⟩⟩, by have := c.len; omega⟩
theorem Cz.no {h : List Ev} {i k : Nat} {l : List Pa} (c : Cz h i k l) (hd : ¬DD h i k) : Cz h i (k + 1) l :=
  ⟨fun p => (c.mem p).trans ⟨fun ⟨x, y, e, d, o⟩ => ⟨x, y, e, d, by omega⟩, fun ⟨x, y, e, d, o⟩ => ⟨x, y, e, d, by
    by_cases e2 : x = i ∧ y = k
    · exact absurd (e2.1 ▸ e2.2 ▸ d) hd
    · omega⟩⟩, by have := c.len; omega⟩
theorem Cz.yes {h : List Ev} {i k : Nat} {l : List Pa} (c : Cz h i k l) (hd : DD h i k) : Cz h i (k + 1) (l ++ [⟨i, k⟩]) :=
  ⟨fun p => by
    rw [List.mem_append, List.mem_singleton, c.mem p]
    constructor
    · rintro (⟨x, y, e, d, o⟩ | rfl)
      · exact ⟨x, y, e, d, by omega⟩
      · exact ⟨i, k, rfl, hd, by omega⟩
    · rintro ⟨x, y, e, d, o⟩
      by_cases e2 : x = i ∧ y = k
      · exact .inr (by rw [e, e2.1, e2.2])
      · exact .inl ⟨x, y, e, d, by omega⟩, by have := c.len; simp; omega⟩
theorem Cz.fin {h : List Ev} {l : List Pa} (c : Cz h h.length 0 l) : Bd h.length l ∧ clo l = cau h := by
  refine ⟨fun p hp => ?_, ?_⟩
  · obtain ⟨x, y, rfl, d, _⟩ := (c.mem p).1 hp
    have := d.1; have := d.2.1
    simp only; omega
  · have : Rl l = DD h := by
      funext x y
      refine propext ⟨fun ⟨p, hp, e1, e2⟩ => ?_, fun d => ?_⟩
      · obtain ⟨x', y', rfl, d, _⟩ := (c.mem p).1 hp
        simp only at e1 e2
        have a1 : x' = x := by omega
        have a2 : y' = y := by omega
        rw [← a1, ← a2]; exact d
      · exact ⟨⟨x, y⟩, (c.mem _).2 ⟨x, y, rfl, d, by have := d.1; have := d.2.1; omega⟩, rfl, rfl⟩
    funext x y
    unfold clo cau
    rw [this]
theorem DD_at {h : List Ev} (hR : Right h) {i k : Nat} (hik : i < k) {x y : Ev} (hx : h[i]? = some x) (hy : h[k]? = some y) : DD h i k ↔ (x.p = y.p ∨ (x.k = 2 ∧ y.k = 3 ∧ x.m = y.m)) := by
  unfold DD Vc.D
  rw [eP_at hx, eP_at hy, eM_at hx, eM_at hy, eK_at hx, eK_at hy]
  have bx := (hR.ev i x hx).1
  have by' := (hR.ev k y hy).1
  unfold inB at bx by'
  have hk := (List.getElem?_eq_some_iff.1 hy).1
  constructor
  · rintro ⟨_, _, h⟩; omega
  · intro h; exact ⟨hik, hk, by omega⟩
set_option maxRecDepth 100000 in
set_option maxHeartbeats 2000000 in
theorem causes {H : List Blk} {a : Sc} {h : List Ev} {Q : AV → List Blk → Prop} (ha : ESl H a h) (hR : Right h)
    (q : ∀ b L, BM (H ++ L) b h.length (cau h) → Q (.c (.sc b)) (H ++ L)) :
    ACalls Try.prog 55 [.sc a] H Q := by
  refine acalls_of tabOk Try.func55 (by kernel_rfl) rfl (by kernel_rfl) ?_
  have la := ha.len (i := ti24) (e := 135) rfl
  have hra := ha.ren
  have hl := hR.len
  simp only [ti24] at la
  have hgr := fun (m : Nat → Nat) (l : List Pa) => ren_gB (m := m) (enc := Pa.enc) (fun x => rfl) l
  (repeat' (first | refine awp_seq ?_ | (refine awp_region tabOk ?_; simp [-lenC, la]) | (refine awp_if ?_; simp [-lenC, la]) | refine awp_block ?_ | refine And.intro ?_ ?_ | intro _ | (refine awp_skip ?_; simp [-lenC, la]) | (refine awp_ret ?_; simp [-lenC, la]) | (refine awp_exit ?_; simp [-lenC, la])))
  refine awp_loop_at (α := {s : Nat × List Pa // s.1 ≤ h.length ∧ Cz h s.1 0 s.2}) (fun s => [(0, .c (.sc a)), (3, .c (.sc (gV 2 H.length s.1.2))), (8, .c (.sc a)), (9, .c (.sc (.int .i64 h.length))), (10, .c (.sc (.int .i64 s.1.1)))])
    (fun s => H ++ [gB Pa.enc s.1.2]) (fun s => h.length - s.1.1) ⟨(0, []), by simp, Cz.zero h⟩ (wk_gcl0 [9] (gcOk_of (by decide) (by simp)) (by simp [hra])) ?_
  rintro ⟨⟨i, l⟩, hi, hC⟩
  simp only at hi hC
  by_cases hlt : i < h.length
  · obtain ⟨x, hx⟩ := at_lt hlt
    obtain ⟨id, off, cap, cs, rfl, hcap, hc, hrow⟩ := ha.row hlt
    obtain ⟨r1, r2⟩ := hrow i x hx
    have hc2 := fun L => lowc_of hc L
    have hid : ∀ ks top, mStd H.length ks top id = id := fun ks top => mStd_low (cells_lt hc)
    have wr := wrapS i (by omega)
    rw [enc_def] at r1
    (repeat' (first | refine awp_seq ?_ | (refine awp_region tabOk ?_; simp [hlt, hc, hc2, r1, r2, wr]) | (refine awp_if ?_; simp [hlt, hc, hc2, r1, r2, wr]) | refine awp_block ?_ | refine And.intro ?_ ?_ | intro _ | (refine awp_skip ?_; simp [hlt, hc, hc2, r1, r2, wr]) | (refine awp_ret ?_; simp [hlt, hc, hc2, r1, r2, wr]) | (refine awp_exit ?_; simp [hlt, hc, hc2, r1, r2, wr])))
    refine awp_loop_at (α := {s : Nat × List Pa // s.1 ≤ h.length ∧ i < s.1 ∧ Cz h i s.1 s.2}) (fun s => [(0, .c (.sc (.sl id off 3 h.length cap))), (3, .c (.sc (gV 2 H.length s.1.2))), (8, .c (.sc (.sl id off 3 h.length cap))), (9, .c (.sc (.int .i64 h.length))), (10, .c (.sc (.int .i64 i))),
        (4, .c (.sc (.int .i64 i))), (5, .c (.sc (.ptr (H.length + 1) 0))), (6, .c (.sc (.int .i64 s.1.1)))])
      (fun s => H ++ [gB Pa.enc s.1.2, .own [.int .i64 x.p, .int .i64 x.k, .int .i64 x.m]]) (fun s => h.length - s.1.1) ⟨(i + 1, l), by show i + 1 ≤ _; omega, by simp, hC.row⟩ (wk_tl (by simp)) ?_
    rintro ⟨⟨k, l⟩, hk, hik, hC⟩
    simp only at hk hik hC
    have hlen := hC.len
    by_cases hkl : k < h.length
    · obtain ⟨y, hy⟩ := at_lt hkl
      obtain ⟨y1, y2⟩ := hrow k y hy
      have wk := wrapS k (by omega)
      rw [enc_def] at y1
      have hdd := DD_at hR hik hx hy
      obtain ⟨xp, xk, xm⟩ := x
      obtain ⟨yp, yk, ym⟩ := y
      simp only at hdd y1
      simp only at r1
      by_cases e1 : xp = yp
      · have hD := hdd.2 (.inl e1)
        cases l with
        | nil =>
          have hcy := hC.yes hD
          (repeat' (first | refine awp_seq ?_ | (refine awp_region tabOk ?_; simp [-lenC, la, hkl, hc2, y1, y2, e1, maxLen, wk]) | (refine awp_if ?_; simp [-lenC, la, hkl, hc2, y1, y2, e1, maxLen, wk]) | refine awp_block ?_ | refine And.intro ?_ ?_ | intro _ | (refine awp_skip ?_; simp [-lenC, la, hkl, hc2, y1, y2, e1, maxLen, wk]) | (refine awp_ret ?_; simp [-lenC, la, hkl, hc2, y1, y2, e1, maxLen, wk]) | (refine awp_exit ?_; simp [-lenC, la, hkl, hc2, y1, y2, e1, maxLen, wk])))
          exact ⟨k + 1, by omega, [⟨i, k⟩], ⟨by omega, by omega, hcy⟩, wk_gcl [4, 1] (gcOk_of (by decide) (by simp [gB, Pa.enc])) (by simp [hid, wk])⟩
        | cons o O =>
          have hcy := hC.yes hD
          obtain ⟨OF, hOF, hgB, hOFl, hOFt, hOFr⟩ := gB_own plen pren o O
          rw [List.length_cons] at hlen
          have hno : ¬O.length + 1 + 1 ≤ O.length + 1 := by omega
          have hml : (O.length + 1 + 1) * 16 ≤ 140737488355328 := by omega
          have hml1 : O.length + 1 + 1 ≤ 9223372036854775807 := by omega
          (repeat' (first | refine awp_seq ?_ | (refine awp_region tabOk ?_; simp [-lenC, la, hkl, hc2, y1, y2, e1, maxLen, wk, hgB, hno, hml, hml1, hOFl, hOFt]) | (refine awp_if ?_; simp [-lenC, la, hkl, hc2, y1, y2, e1, maxLen, wk, hgB, hno, hml, hml1, hOFl, hOFt]) | refine awp_block ?_ | refine And.intro ?_ ?_ | intro _ | (refine awp_skip ?_; simp [-lenC, la, hkl, hc2, y1, y2, e1, maxLen, wk, hgB, hno, hml, hml1, hOFl, hOFt]) | (refine awp_ret ?_; simp [-lenC, la, hkl, hc2, y1, y2, e1, maxLen, wk, hgB, hno, hml, hml1, hOFl, hOFt]) | (refine awp_exit ?_; simp [-lenC, la, hkl, hc2, y1, y2, e1, maxLen, wk, hgB, hno, hml, hml1, hOFl, hOFt])))
          refine ⟨k + 1, by omega, (o :: O) ++ [⟨i, k⟩], ⟨by omega, by omega, hcy⟩, ?_⟩
          rw [gB_snoc, gV_snoc, ← hOF]
          exact wk_gcl [4, 1] (gcOk_of (by decide) (by simp [hOFr, Pa.enc])) (by simp [hid, wk])
      · by_cases e2 : xk = 2
        · by_cases e3 : yk = 3
          · by_cases e4 : xm = ym
            · have hD := hdd.2 (.inr ⟨e2, e3, e4⟩)
              cases l with
              | nil =>
                have hcy := hC.yes hD
                (repeat' (first | refine awp_seq ?_ | (refine awp_region tabOk ?_; simp [-lenC, la, hkl, hc2, y1, y2, e1, e2, e3, e4, maxLen, wk]) | (refine awp_if ?_; simp [-lenC, la, hkl, hc2, y1, y2, e1, e2, e3, e4, maxLen, wk]) | refine awp_block ?_ | refine And.intro ?_ ?_ | intro _ | (refine awp_skip ?_; simp [-lenC, la, hkl, hc2, y1, y2, e1, e2, e3, e4, maxLen, wk]) | (refine awp_ret ?_; simp [-lenC, la, hkl, hc2, y1, y2, e1, e2, e3, e4, maxLen, wk]) | (refine awp_exit ?_; simp [-lenC, la, hkl, hc2, y1, y2, e1, e2, e3, e4, maxLen, wk])))
                exact ⟨k + 1, by omega, [⟨i, k⟩], ⟨by omega, by omega, hcy⟩, wk_gcl [4, 1] (gcOk_of (by decide) (by simp [gB, Pa.enc])) (by simp [hid, wk])⟩
              | cons o O =>
                have hcy := hC.yes hD
                obtain ⟨OF, hOF, hgB, hOFl, hOFt, hOFr⟩ := gB_own plen pren o O
                rw [List.length_cons] at hlen
                have hno : ¬O.length + 1 + 1 ≤ O.length + 1 := by omega
                have hml : (O.length + 1 + 1) * 16 ≤ 140737488355328 := by omega
                have hml1 : O.length + 1 + 1 ≤ 9223372036854775807 := by omega
                (repeat' (first | refine awp_seq ?_ | (refine awp_region tabOk ?_; simp [-lenC, la, hkl, hc2, y1, y2, e1, e2, e3, e4, maxLen, wk, hgB, hno, hml, hml1, hOFl, hOFt]) | (refine awp_if ?_; simp [-lenC, la, hkl, hc2, y1, y2, e1, e2, e3, e4, maxLen, wk, hgB, hno, hml, hml1, hOFl, hOFt]) | refine awp_block ?_ | refine And.intro ?_ ?_ | intro _ | (refine awp_skip ?_; simp [-lenC, la, hkl, hc2, y1, y2, e1, e2, e3, e4, maxLen, wk, hgB, hno, hml, hml1, hOFl, hOFt]) | (refine awp_ret ?_; simp [-lenC, la, hkl, hc2, y1, y2, e1, e2, e3, e4, maxLen, wk, hgB, hno, hml, hml1, hOFl, hOFt]) | (refine awp_exit ?_; simp [-lenC, la, hkl, hc2, y1, y2, e1, e2, e3, e4, maxLen, wk, hgB, hno, hml, hml1, hOFl, hOFt])))
                refine ⟨k + 1, by omega, (o :: O) ++ [⟨i, k⟩], ⟨by omega, by omega, hcy⟩, ?_⟩
                rw [gB_snoc, gV_snoc, ← hOF]
                exact wk_gcl [4, 1] (gcOk_of (by decide) (by simp [hOFr, Pa.enc])) (by simp [hid, wk])
            · (repeat' (first | refine awp_seq ?_ | (refine awp_region tabOk ?_; simp [-lenC, la, hkl, hc2, y1, y2, e1, e2, e3, e4, wk]) | (refine awp_if ?_; simp [-lenC, la, hkl, hc2, y1, y2, e1, e2, e3, e4, wk]) | refine awp_block ?_ | refine And.intro ?_ ?_ | intro _ | (refine awp_skip ?_; simp [-lenC, la, hkl, hc2, y1, y2, e1, e2, e3, e4, wk]) | (refine awp_ret ?_; simp [-lenC, la, hkl, hc2, y1, y2, e1, e2, e3, e4, wk]) | (refine awp_exit ?_; simp [-lenC, la, hkl, hc2, y1, y2, e1, e2, e3, e4, wk])))
              exact ⟨k + 1, by omega, l, ⟨by omega, by omega, hC.no (fun d => by have := hdd.1 d; omega)⟩, wk_gcl [0, 1] (gcOk_of (by decide) (by simp [hgr])) (by simp [hid, wk])⟩
          · (repeat' (first | refine awp_seq ?_ | (refine awp_region tabOk ?_; simp [-lenC, la, hkl, hc2, y1, y2, e1, e2, e3, wk]) | (refine awp_if ?_; simp [-lenC, la, hkl, hc2, y1, y2, e1, e2, e3, wk]) | refine awp_block ?_ | refine And.intro ?_ ?_ | intro _ | (refine awp_skip ?_; simp [-lenC, la, hkl, hc2, y1, y2, e1, e2, e3, wk]) | (refine awp_ret ?_; simp [-lenC, la, hkl, hc2, y1, y2, e1, e2, e3, wk]) | (refine awp_exit ?_; simp [-lenC, la, hkl, hc2, y1, y2, e1, e2, e3, wk])))
            exact ⟨k + 1, by omega, l, ⟨by omega, by omega, hC.no (fun d => by have := hdd.1 d; omega)⟩, wk_gcl [0, 1] (gcOk_of (by decide) (by simp [hgr])) (by simp [hid, wk])⟩
        · (repeat' (first | refine awp_seq ?_ | (refine awp_region tabOk ?_; simp [-lenC, la, hkl, hc2, y1, y2, e1, e2, wk]) | (refine awp_if ?_; simp [-lenC, la, hkl, hc2, y1, y2, e1, e2, wk]) | refine awp_block ?_ | refine And.intro ?_ ?_ | intro _ | (refine awp_skip ?_; simp [-lenC, la, hkl, hc2, y1, y2, e1, e2, wk]) | (refine awp_ret ?_; simp [-lenC, la, hkl, hc2, y1, y2, e1, e2, wk]) | (refine awp_exit ?_; simp [-lenC, la, hkl, hc2, y1, y2, e1, e2, wk])))
          exact ⟨k + 1, by omega, l, ⟨by omega, by omega, hC.no (fun d => by have := hdd.1 d; omega)⟩, wk_gcl [0, 1] (gcOk_of (by decide) (by simp [hgr])) (by simp [hid, wk])⟩
    · obtain rfl : k = h.length := by omega
      (repeat' (first | refine awp_seq ?_ | (refine awp_region tabOk ?_; simp [-lenC, la, hkl]) | (refine awp_if ?_; simp [-lenC, la, hkl]) | refine awp_block ?_ | refine And.intro ?_ ?_ | intro _ | (refine awp_skip ?_; simp [-lenC, la, hkl]) | (refine awp_ret ?_; simp [-lenC, la, hkl]) | (refine awp_exit ?_; simp [-lenC, la, hkl])))
      exact ⟨i + 1, by omega, l, ⟨by omega, hC.next (Nat.le_refl _) hl⟩, wk_gcl [0] (gcOk_of (by decide) (by simp [hgr])) (by simp [hid, wr])⟩
  · obtain rfl : i = h.length := by omega
    obtain ⟨hBd, hclo⟩ := hC.fin
    have hlen := hC.len
    (repeat' (first | refine awp_seq ?_ | (refine awp_region tabOk ?_; simp [-lenC, la]) | (refine awp_if ?_; simp [-lenC, la]) | refine awp_block ?_ | refine And.intro ?_ ?_ | intro _ | (refine awp_skip ?_; simp [-lenC, la]) | (refine awp_ret ?_; simp [-lenC, la]) | (refine awp_exit ?_; simp [-lenC, la])))
    refine closure (l := l) (GSl.own plen (by simp)) (by omega) (by omega) hBd (fun b L hb => ?_)
    rw [hclo] at hb
    ((try simp); (repeat' (first | refine awp_seq ?_ | (refine awp_region tabOk ?_; simp) | (refine awp_if ?_; simp) | refine awp_block ?_ | refine And.intro ?_ ?_ | intro _ | (refine awp_skip ?_; simp) | (refine awp_ret ?_; simp) | (refine awp_exit ?_; simp))))
    exact ⟨_, _, GcTo.refl (by simp), q b (gB Pa.enc l :: L) (by simpa using hb)⟩
end Go.Proofs.Ytjjhogleiolngaa
