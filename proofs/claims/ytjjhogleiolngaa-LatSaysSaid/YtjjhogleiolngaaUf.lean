/- LatMaps: what is still; lat.Still, partref.Still. -/
import Derived.Test.YtjjhogleiolngaaUe
namespace Go.Proofs.Ytjjhogleiolngaa
set_option linter.unusedSimpArgs false
set_option linter.unusedVariables false
open Go.RowKit
attribute [local irreducible] AWP ACalls Wk GcTo
attribute [local simp] tab3 ti3 tab4 ti4 tab29 ti29 tab40 ti40 tab44 ti44 tab47 ti47
open Se
namespace Se
theorem Sub.trans {s t u : Nat} (h : Sub s t) (k : Sub t u) : Sub s u := (sub_iff s u).2 fun a ha => (sub_iff t u).1 k a ((sub_iff s t).1 h a ha)
theorem Sub.refl (s : Nat) : Sub s s := Nat.and_self s
theorem Sub.le {s t : Nat} (h : Sub s t) : s ≤ t := by unfold Sub at h; rw [← h]; exact Nat.and_le_right
variable {l : List Nat} {f : List Int}
theorem Lt.mem (h : Lt l) {k : Nat} (hk : k < l.length) : l.getD k 0 ∈ l := by rw [getD_at (List.getElem?_eq_getElem hk)]; exact List.getElem_mem hk
theorem Lt.lt_of_lt (h : Lt l) {i j : Nat} (hi : i < l.length) (hj : j < l.length) (hlt : l.getD i 0 < l.getD j 0) : i < j := by
  rcases Nat.lt_trichotomy i j with a | a | a
  · exact a
  · subst a; omega
  · have := sorted' h.scan a hi; omega
theorem Lt.inj (h : Lt l) {i j : Nat} (hi : i < l.length) (hj : j < l.length) (e : l.getD i 0 = l.getD j 0) : i = j := by
  rcases Nat.lt_trichotomy i j with a | a | a
  · have := sorted' h.scan a hj; omega
  · exact a
  · have := sorted' h.scan a hi; omega
theorem Lt.top (h : Lt l) {k : Nat} (hk : k < l.length) : Sub (l.getD k 0) (l.getD (l.length - 1) 0) := by
  have hl := h.len
  have h1 := (h.cl _ (h.mem hk) _ (h.mem (k := l.length - 1) (by omega))).1
  obtain ⟨j, hj⟩ := List.getElem?_of_mem h1
  have hjl := (List.getElem?_eq_some_iff.1 hj).1
  have e := getD_at hj
  have hge : l.getD (l.length - 1) 0 ≤ l.getD j 0 := by rw [e]; exact Nat.right_le_or
  have : j = l.length - 1 := by
    by_cases e2 : j = l.length - 1
    · exact e2
    · have := sorted' h.scan (i := j) (j := l.length - 1) (by omega) (by omega); omega
  rw [this] at e
  exact (or_sub _ _).1 e.symm
theorem Lt.bot (h : Lt l) (k : Nat) : Sub (l.getD 0 0) (l.getD k 0) := by rw [h.zero]; unfold Sub; simp
structure Ok (l : List Nat) (f : List Int) : Prop where
  lt : Lt l
  len : f.length = l.length
  va : vaE l f
  up : upE l f
theorem ok_of (h : maErr l f = 0) : Ok l f := by obtain ⟨a, b, c, d⟩ := maErr_ok h; exact ⟨a, b, c, d⟩
theorem Ok.ph (h : Ok l f) {k : Nat} (hk : k < l.length) : f[k]? = some ((Se.ph f k : Nat) : Int) ∧ Se.ph f k < l.length := by
  have h1 : f[k]? = some (f[k]'(by rw [h.len]; exact hk)) := List.getElem?_eq_getElem _
  have h2 := h.va _ (List.mem_of_getElem? h1)
  have : Se.ph f k = (f[k]'(by rw [h.len]; exact hk)).toNat := by unfold Se.ph; rw [List.getD_eq_getElem?_getD, h1]; rfl
  rw [this]
  exact ⟨by rw [h1]; congr 1; omega, by omega⟩
def Low (l : List Nat) (f : List Int) (m : Nat) : Prop := ∀ k, k < l.length → Sub (l.getD (ph f k) 0) (l.getD k 0) → Sub (l.getD m 0) (l.getD k 0)
def High (l : List Nat) (f : List Int) (m : Nat) : Prop := ∀ k, k < l.length → Sub (l.getD k 0) (l.getD (ph f k) 0) → Sub (l.getD k 0) (l.getD m 0)
structure LoP (l : List Nat) (f : List Int) (m : Nat) : Prop where
  lt : m < l.length
  fix : ph f m = m
  low : Low l f m
structure HiP (l : List Nat) (f : List Int) (m : Nat) : Prop where
  lt : m < l.length
  fix : ph f m = m
  high : High l f m
theorem Ok.low_step (h : Ok l f) {m : Nat} (hm : m < l.length) (h1 : Sub (l.getD m 0) (l.getD (Se.ph f m) 0)) (h2 : Low l f m) (hne : ¬Se.ph f m = m) :
    m < Se.ph f m ∧ Sub (l.getD (Se.ph f m) 0) (l.getD (Se.ph f (Se.ph f m)) 0) ∧ Low l f (Se.ph f m) := by
  have hp := (h.ph hm).2
  refine ⟨?_, h.up m hm _ hp h1, fun k hk hs => (h.up m hm k hk (h2 k hk hs)).trans hs⟩
  refine h.lt.lt_of_lt hm hp ?_
  have := h1.le
  rcases Nat.lt_or_ge (l.getD m 0) (l.getD (Se.ph f m) 0) with a | a
  · exact a
  · exact absurd (h.lt.inj hp hm (by omega)) hne
theorem Ok.high_step (h : Ok l f) {m : Nat} (hm : m < l.length) (h1 : Sub (l.getD (Se.ph f m) 0) (l.getD m 0)) (h2 : High l f m) (hne : ¬Se.ph f m = m) :
    Se.ph f m < m ∧ Sub (l.getD (Se.ph f (Se.ph f m)) 0) (l.getD (Se.ph f m) 0) ∧ High l f (Se.ph f m) := by
  have hp := (h.ph hm).2
  refine ⟨?_, h.up _ hp m hm h1, fun k hk hs => hs.trans (h.up k hk m hm (h2 k hk hs))⟩
  refine h.lt.lt_of_lt hp hm ?_
  have := h1.le
  rcases Nat.lt_or_ge (l.getD (Se.ph f m) 0) (l.getD m 0) with a | a
  · exact a
  · exact absurd (h.lt.inj hp hm (by omega)) hne
def lwU (l : List Nat) (f : List Int) : Nat → Nat
  | 0 => l.getD (l.length - 1) 0
  | i + 1 => if Sub (l.getD (ph f i) 0) (l.getD i 0) then lwU l f i &&& l.getD i 0 else lwU l f i
def hwU (l : List Nat) (f : List Int) : Nat → Nat
  | 0 => l.getD 0 0
  | i + 1 => if Sub (l.getD i 0) (l.getD (ph f i) 0) then hwU l f i ||| l.getD i 0 else hwU l f i
theorem lwU_bit (a : Nat) : ∀ n, (lwU l f n).testBit a = true ↔ ((l.getD (l.length - 1) 0).testBit a = true ∧ ∀ k, k < n → Sub (l.getD (ph f k) 0) (l.getD k 0) → (l.getD k 0).testBit a = true)
  | 0 => by simp [lwU]
  | n + 1 => by
    have ih := lwU_bit a n
    simp only [lwU]
    by_cases e : Sub (l.getD (ph f n) 0) (l.getD n 0)
    · rw [if_pos e, Nat.testBit_and, Bool.and_eq_true, ih]
      constructor
      · rintro ⟨⟨a1, a2⟩, a3⟩
        refine ⟨a1, fun k hk hs => ?_⟩
        by_cases e2 : k = n
        · subst e2; exact a3
        · exact a2 k (by omega) hs
      · rintro ⟨a1, a2⟩; exact ⟨⟨a1, fun k hk => a2 k (by omega)⟩, a2 n (by omega) e⟩
    · rw [if_neg e, ih]
      constructor
      · rintro ⟨a1, a2⟩
        refine ⟨a1, fun k hk hs => ?_⟩
        by_cases e2 : k = n
        · subst e2; exact absurd hs e
        · exact a2 k (by omega) hs
      · rintro ⟨a1, a2⟩; exact ⟨a1, fun k hk => a2 k (by omega)⟩
theorem hwU_bit (a : Nat) : ∀ n, (hwU l f n).testBit a = true ↔ ((l.getD 0 0).testBit a = true ∨ ∃ k, k < n ∧ Sub (l.getD k 0) (l.getD (ph f k) 0) ∧ (l.getD k 0).testBit a = true)
  | 0 => by simp [hwU]
  | n + 1 => by
    have ih := hwU_bit a n
    simp only [hwU]
    by_cases e : Sub (l.getD n 0) (l.getD (ph f n) 0)
    · rw [if_pos e, Nat.testBit_or, Bool.or_eq_true, ih]
      constructor
      · rintro ((a1 | ⟨k, a1, a2⟩) | a3)
        · exact .inl a1
        · exact .inr ⟨k, by omega, a2⟩
        · exact .inr ⟨n, by omega, e, a3⟩
      · rintro (a1 | ⟨k, a1, a2, a3⟩)
        · exact .inl (.inl a1)
        · by_cases e2 : k = n
          · subst e2; exact .inr a3
          · exact .inl (.inr ⟨k, by omega, a2, a3⟩)
    · rw [if_neg e, ih]
      constructor
      · rintro (a1 | ⟨k, a1, a2⟩)
        · exact .inl a1
        · exact .inr ⟨k, by omega, a2⟩
      · rintro (a1 | ⟨k, a1, a2, a3⟩)
        · exact .inl a1
        · by_cases e2 : k = n
          · subst e2; exact absurd a2 e
          · exact .inr ⟨k, by omega, a2, a3⟩
theorem lwU_eq (h : Ok l f) {m : Nat} (hm : LoP l f m) : lwU l f l.length = l.getD m 0 := by
  apply Nat.eq_of_testBit_eq
  intro a
  rw [Bool.eq_iff_iff, lwU_bit]
  constructor
  · rintro ⟨_, a2⟩; exact a2 m hm.lt (by rw [hm.fix]; exact Sub.refl _)
  · intro ha; exact ⟨(sub_iff _ _).1 (h.lt.top hm.lt) a ha, fun k hk hs => (sub_iff _ _).1 (hm.low k hk hs) a ha⟩
theorem hwU_eq (h : Ok l f) {m : Nat} (hm : HiP l f m) : hwU l f l.length = l.getD m 0 := by
  apply Nat.eq_of_testBit_eq
  intro a
  rw [Bool.eq_iff_iff, hwU_bit]
  constructor
  · rintro (a1 | ⟨k, a1, a2, a3⟩)
    · rw [h.lt.zero] at a1; simp at a1
    · exact (sub_iff _ _).1 (hm.high k a1 a2) a a3
  · intro ha; exact .inr ⟨m, hm.lt, by rw [hm.fix]; exact Sub.refl _, ha⟩
theorem lwU_le (h : Lt l) : ∀ i, lwU l f i ≤ 4095
  | 0 => h.small (h.mem (by have := h.len; omega))
  | i + 1 => by
    have := lwU_le h i
    simp only [lwU]
    split
    · exact Nat.le_trans Nat.and_le_left this
    · exact this
theorem hwU_le (h : Lt l) : ∀ i, i ≤ l.length → hwU l f i < 2 ^ 12
  | 0, _ => by show l.getD 0 0 < 2 ^ 12; rw [h.zero]; decide
  | i + 1, hi => by
    have := hwU_le h i (by omega)
    simp only [hwU]
    split
    · exact Nat.or_lt_two_pow this (by have := h.small (h.mem (k := i) (by omega)); omega)
    · exact this
end Se
set_option maxRecDepth 100000 in
set_option maxHeartbeats 2000000 in
theorem latStill {H : List Blk} {a b : Sc} {l : List Nat} {f : List Int} {Q : AV → List Blk → Prop} (ha : USl H a l) (hb : ISl H b f) (hw : ∀ s ∈ l, s < 65536)
    (q0 : ¬maErr l f = 0 → Q (.tup [.sc (.int .i64 0), .sc (.int .i64 0), .sc (.int .i64 (maErr l f))]) H)
    (q1 : maErr l f = 0 → ∀ lo hi : Nat, LoP l f lo → HiP l f hi → Q (.tup [.sc (.int .i64 lo), .sc (.int .i64 hi), .sc (.int .i64 0)]) H) :
    ACalls Try.prog 29 [.sc a, .sc b] H Q := by
  refine acalls_of tabOk Try.func29 (by kernel_rfl) rfl (by kernel_rfl) ?_
  have la := ha.len (i := ti40) (e := 44) rfl
  simp only [ti40] at la
  (repeat' (first | refine awp_seq ?_ | (refine awp_region tabOk ?_; simp) | (refine awp_if ?_; simp) | refine awp_block ?_ | refine And.intro ?_ ?_ | intro _ | (refine awp_skip ?_; simp) | (refine awp_ret ?_; simp) | (refine awp_exit ?_; simp)))
  refine latRises ha hb hw ?_
  by_cases he : maErr l f = 0
  · have q := q1 he
    have hO := ok_of he
    have hl1 := hO.lt.len
    obtain ⟨fid, foff, fcap, fcs, hbe, hfcap, hfc, hfx⟩ := hb.at (i := 0) (by rw [hO.len]; omega)
    have hph := fun k (hk : k < l.length) => hO.ph hk
    have hfl := hO.len
    obtain ⟨n, hn⟩ : ∃ n, l.length = n := ⟨_, rfl⟩
    rw [hfl, hn] at hbe hfcap
    subst hbe
    rw [hn] at la hl1
    ((try simp [he]); (repeat' (first | refine awp_seq ?_ | (refine awp_region tabOk ?_; simp [he]) | (refine awp_if ?_; simp [he]) | refine awp_block ?_ | refine And.intro ?_ ?_ | intro _ | (refine awp_skip ?_; simp [he]) | (refine awp_ret ?_; simp [he]) | (refine awp_exit ?_; simp [he]))))
    refine awp_loop_at (α := {m : Nat // m < l.length ∧ Sub (l.getD m 0) (l.getD (ph f m) 0) ∧ Low l f m}) (fun m => [(0, .c (.sc a)), (1, .c (.sc (.sl fid foff 1 n fcap))), (8, .c (.sc (.int .i64 m.1)))]) (fun _ => H) (fun m => l.length - m.1)
      ⟨0, by omega, hO.lt.bot _, fun k _ _ => hO.lt.bot _⟩ (wk_tl (by simp)) ?_
    rintro ⟨m, hm, hs1, hs2⟩
    obtain ⟨e1, e2⟩ := hph m hm
    have y1 := hfx m _ e1
    obtain ⟨_, y1'⟩ := List.getElem?_eq_some_iff.1 y1
    have hmn : m < n := by omega
    have hmn' : (m : Int) < n := by omega
    by_cases hne : ph f m = m
    · have hlo : LoP l f m := ⟨hm, hne, hs2⟩
      rw [hne] at y1 y1'
      have wn : IntKind.i64.wrap ((n : Int) - 1) = ((n - 1 : Nat) : Int) := by rw [wrap_in _ (by omega) (by omega)]; omega
      (repeat' (first | refine awp_seq ?_ | (refine awp_region tabOk ?_; simp [-lenC, la, hmn, hmn', hfc, y1, y1', wn]) | (refine awp_if ?_; simp [-lenC, la, hmn, hmn', hfc, y1, y1', wn]) | refine awp_block ?_ | refine And.intro ?_ ?_ | intro _ | (refine awp_skip ?_; simp [-lenC, la, hmn, hmn', hfc, y1, y1', wn]) | (refine awp_ret ?_; simp [-lenC, la, hmn, hmn', hfc, y1, y1', wn]) | (refine awp_exit ?_; simp [-lenC, la, hmn, hmn', hfc, y1, y1', wn])))
      refine awp_loop_at (α := {k : Nat // k < l.length ∧ Sub (l.getD (ph f k) 0) (l.getD k 0) ∧ High l f k}) (fun k => [(1, .c (.sc (.sl fid foff 1 n fcap))), (8, .c (.sc (.int .i64 m))), (9, .c (.sc (.int .i64 k.1)))]) (fun _ => H) (fun k => k.1)
        ⟨n - 1, by omega, by rw [← hn]; exact hO.lt.top (hph _ (by omega)).2, fun k hk _ => by rw [← hn]; exact hO.lt.top hk⟩ (wk_tl (by simp [wn])) ?_
      rintro ⟨k, hk, hk1, hk2⟩
      obtain ⟨g1, g2⟩ := hph k hk
      have y2 := hfx k _ g1
      obtain ⟨_, y2'⟩ := List.getElem?_eq_some_iff.1 y2
      have hkn : k < n := by omega
      have hkn' : (k : Int) < n := by omega
      by_cases hnk : ph f k = k
      · rw [hnk] at y2 y2'
        (repeat' (first | refine awp_seq ?_ | (refine awp_region tabOk ?_; simp [hkn, hkn', hfc, y2, y2']) | (refine awp_if ?_; simp [hkn, hkn', hfc, y2, y2']) | refine awp_block ?_ | refine And.intro ?_ ?_ | intro _ | (refine awp_skip ?_; simp [hkn, hkn', hfc, y2, y2']) | (refine awp_ret ?_; simp [hkn, hkn', hfc, y2, y2']) | (refine awp_exit ?_; simp [hkn, hkn', hfc, y2, y2'])))
        exact ⟨H, _, GcTo.refl (Nat.le_refl _), q m k hlo ⟨hk, hnk, hk2⟩⟩
      · obtain ⟨p1, p2, p3⟩ := hO.high_step hk hk1 hk2 hnk
        have hnk' : ¬((ph f k : Nat) : Int) = k := by omega
        (repeat' (first | refine awp_seq ?_ | (refine awp_region tabOk ?_; simp [hkn, hkn', hfc, y2, y2', hnk, hnk']) | (refine awp_if ?_; simp [hkn, hkn', hfc, y2, y2', hnk, hnk']) | refine awp_block ?_ | refine And.intro ?_ ?_ | intro _ | (refine awp_skip ?_; simp [hkn, hkn', hfc, y2, y2', hnk, hnk']) | (refine awp_ret ?_; simp [hkn, hkn', hfc, y2, y2', hnk, hnk']) | (refine awp_exit ?_; simp [hkn, hkn', hfc, y2, y2', hnk, hnk'])))
        exact ⟨ph f k, by omega, ⟨by omega, p2, p3⟩, wk_tl (by simp)⟩
    · obtain ⟨p1, p2, p3⟩ := hO.low_step hm hs1 hs2 hne
      have hne' : ¬((ph f m : Nat) : Int) = m := by omega
      (repeat' (first | refine awp_seq ?_ | (refine awp_region tabOk ?_; simp [hmn, hmn', hfc, y1, y1', hne, hne']) | (refine awp_if ?_; simp [hmn, hmn', hfc, y1, y1', hne, hne']) | refine awp_block ?_ | refine And.intro ?_ ?_ | intro _ | (refine awp_skip ?_; simp [hmn, hmn', hfc, y1, y1', hne, hne']) | (refine awp_ret ?_; simp [hmn, hmn', hfc, y1, y1', hne, hne']) | (refine awp_exit ?_; simp [hmn, hmn', hfc, y1, y1', hne, hne'])))
      exact ⟨ph f m, by omega, ⟨by omega, p2, p3⟩, wk_tl (by simp)⟩
  · have q := q0 he
    ((try simp [he]); (repeat' (first | refine awp_seq ?_ | (refine awp_region tabOk ?_; simp [he]) | (refine awp_if ?_; simp [he]) | refine awp_block ?_ | refine And.intro ?_ ?_ | intro _ | (refine awp_skip ?_; simp [he]) | (refine awp_ret ?_; simp [he]) | (refine awp_exit ?_; simp [he]))))
    exact ⟨H, _, GcTo.refl (Nat.le_refl _), q⟩
set_option maxRecDepth 100000 in
theorem indexU16 {H : List Blk} {a : Sc} {l : List Nat} {x k : Nat} {Q : AV → List Blk → Prop} (ha : USl H a l) (hL : Lt l) (hk : k < l.length) (hx : l.getD k 0 = x) (q : Q (.c (.sc (.int .i64 k))) H) :
    ACalls Try.prog 92 [.sc a, .sc (.int .u16 x)] H Q := by
  refine acalls_of tabOk Try.func92 (by kernel_rfl) rfl (by kernel_rfl) ?_
  obtain ⟨id, off, cap, cs, rfl, hcap, hc, hxs⟩ := usl_at ha (by omega)
  have hl := hL.len
  obtain ⟨n, hn⟩ : ∃ n, l.length = n := ⟨_, rfl⟩
  rw [hn]
  (repeat' (first | refine awp_seq ?_ | (refine awp_region tabOk ?_; simp) | (refine awp_if ?_; simp) | refine awp_block ?_ | refine And.intro ?_ ?_ | intro _ | (refine awp_skip ?_; simp) | (refine awp_ret ?_; simp) | (refine awp_exit ?_; simp)))
  refine awp_loop_at (α := {i : Nat // i ≤ k}) (fun i => [(0, .c (.sc (.sl id off 1 n cap))), (1, .c (.sc (.int .u16 x))), (7, .c (.sc (.int .i64 n))), (8, .c (.sc (.int .i64 i.1)))]) (fun _ => H) (fun i => k - i.1) ⟨0, by omega⟩ (wk_tl (by simp)) ?_
  rintro ⟨i, hi⟩
  obtain ⟨s, hs⟩ : ∃ s, l[i]? = some s := ⟨l[i]'(by omega), List.getElem?_eq_getElem _⟩
  have z := hxs i s hs
  obtain ⟨_, z'⟩ := List.getElem?_eq_some_iff.1 z
  have hin : i < n := by omega
  have hin' : (i : Int) < n := by omega
  have wr := wrapS i (by omega)
  by_cases e : i = k
  · subst e
    have : s = x := by rw [← hx, getD_at hs]
    subst this
    (repeat' (first | refine awp_seq ?_ | (refine awp_region tabOk ?_; simp [hin, hin', hc, z, z']) | (refine awp_if ?_; simp [hin, hin', hc, z, z']) | refine awp_block ?_ | refine And.intro ?_ ?_ | intro _ | (refine awp_skip ?_; simp [hin, hin', hc, z, z']) | (refine awp_ret ?_; simp [hin, hin', hc, z, z']) | (refine awp_exit ?_; simp [hin, hin', hc, z, z'])))
    exact ⟨H, _, GcTo.refl (Nat.le_refl _), q⟩
  · have hne : ¬x = s := fun h => e (hL.inj (by omega) hk (by rw [getD_at hs, hx, h]))
    have hne' : ¬(x : Int) = s := by omega
    (repeat' (first | refine awp_seq ?_ | (refine awp_region tabOk ?_; simp [hin, hin', hc, z, z', hne, hne', wr]) | (refine awp_if ?_; simp [hin, hin', hc, z, z', hne, hne', wr]) | refine awp_block ?_ | refine And.intro ?_ ?_ | intro _ | (refine awp_skip ?_; simp [hin, hin', hc, z, z', hne, hne', wr]) | (refine awp_ret ?_; simp [hin, hin', hc, z, z', hne, hne', wr]) | (refine awp_exit ?_; simp [hin, hin', hc, z, z', hne, hne', wr])))
    exact ⟨i + 1, by omega, by omega, wk_tl (by simp [wr])⟩
end Go.Proofs.Ytjjhogleiolngaa
