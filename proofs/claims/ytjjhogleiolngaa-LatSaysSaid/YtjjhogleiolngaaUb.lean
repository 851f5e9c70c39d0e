/- Lists of sets: lat.Check. -/
import Derived.Test.YtjjhogleiolngaaUa
namespace Go.Proofs.Ytjjhogleiolngaa
set_option linter.unusedSimpArgs false
set_option linter.unusedVariables false
open Go.RowKit
attribute [local irreducible] AWP ACalls Wk GcTo
attribute [local simp] tab3 ti3 tab4 ti4 tab29 ti29 tab40 ti40 tab44 ti44 tab144 ti144 tab145 ti145
open Se
set_option maxRecDepth 100000 in
set_option maxHeartbeats 2000000 in
theorem latCheck {H : List Blk} {a : Sc} {l : List Nat} {Q : AV → List Blk → Prop} (ha : USl H a l) (hw : ∀ s ∈ l, s < 65536) (q : Q (.c (.sc (.int .i64 (seErr l)))) H) :
    ACalls Try.prog 36 [.sc a] H Q := by
  refine acalls_of tabOk Try.func36 (by kernel_rfl) rfl (by kernel_rfl) ?_
  have la := ha.len (i := ti40) (e := 44) rfl
  simp only [ti40] at la
  obtain ⟨n, hn⟩ : ∃ n, l.length = n := ⟨_, rfl⟩
  rw [hn] at la
  by_cases h1 : n < 1
  · have h1' : (n : Int) < 1 := by omega
    have e : seErr l = 2 := if_pos (by omega)
    rw [e] at q
    (repeat' (first | refine awp_seq ?_ | (refine awp_region tabOk ?_; simp [-lenC, la, h1']) | (refine awp_if ?_; simp [-lenC, la, h1']) | refine awp_block ?_ | refine And.intro ?_ ?_ | intro _ | (refine awp_skip ?_; simp [-lenC, la, h1']) | (refine awp_ret ?_; simp [-lenC, la, h1']) | (refine awp_exit ?_; simp [-lenC, la, h1'])))
    exact ⟨H, _, GcTo.refl (Nat.le_refl _), q⟩
  have h1' : ¬(n : Int) < 1 := by omega
  by_cases h2 : 4096 < n
  · have h2' : (4096 : Int) < n := by omega
    have e : seErr l = 2 := if_pos (by omega)
    rw [e] at q
    (repeat' (first | refine awp_seq ?_ | (refine awp_region tabOk ?_; simp [-lenC, la, h1', h2']) | (refine awp_if ?_; simp [-lenC, la, h1', h2']) | refine awp_block ?_ | refine And.intro ?_ ?_ | intro _ | (refine awp_skip ?_; simp [-lenC, la, h1', h2']) | (refine awp_ret ?_; simp [-lenC, la, h1', h2']) | (refine awp_exit ?_; simp [-lenC, la, h1', h2'])))
    exact ⟨H, _, GcTo.refl (Nat.le_refl _), q⟩
  have h2' : ¬(4096 : Int) < n := by omega
  obtain ⟨id, off, cap, cs, rfl, hcap, hc, hx⟩ := usl_at ha (by omega)
  have hcL := fun L => lowc_of hc L
  have hid : ∀ ks top, mStd H.length ks top id = id := fun ks top => mStd_low (cells_lt hc)
  rw [hn] at la ⊢
  obtain ⟨s0, hs0⟩ : ∃ s, l[0]? = some s := ⟨l[0]'(by omega), List.getElem?_eq_getElem _⟩
  have z0 := hx 0 s0 hs0
  rw [Nat.add_zero] at z0
  obtain ⟨_, z0'⟩ := List.getElem?_eq_some_iff.1 z0
  have hn0 : 0 < n := by omega
  have hn0' : (0 : Int) < n := by omega
  by_cases h3 : s0 = 0
  · subst h3
    have e : seErr l = if ¬scanS l n 0 = 0 then scanS l n 0 else if 300 < n then 2 else if ∀ s ∈ l, ∀ t ∈ l, Cl2 l s t then 0 else 4 := by
      unfold seErr; rw [hn, if_neg (by omega), if_neg (by rw [getD_at hs0]; simp)]
    push_cast at z0 z0'
    (repeat' (first | refine awp_seq ?_ | (refine awp_region tabOk ?_; simp [h1', h2', hc, z0, z0', hn0, hn0']) | (refine awp_if ?_; simp [h1', h2', hc, z0, z0', hn0, hn0']) | refine awp_block ?_ | refine And.intro ?_ ?_ | intro _ | (refine awp_skip ?_; simp [h1', h2', hc, z0, z0', hn0, hn0']) | (refine awp_ret ?_; simp [h1', h2', hc, z0, z0', hn0, hn0']) | (refine awp_exit ?_; simp [h1', h2', hc, z0, z0', hn0, hn0'])))
    refine awp_loop_at (α := {s : Nat × List (Int × Int) // s.1 ≤ n ∧ scanS l n 0 = scanS l (n - s.1) s.1 ∧ ∀ x : Nat, getM s.2 x = if x ∈ l.take s.1 then 1 else 0}) (fun s => [(0, .c (.sc (.sl id off 1 n cap))), (3, .c (.sc (.mp H.length))), (23, .c (.sc (.sl id off 1 n cap))), (24, .c (.sc (.int .i64 n))), (25, .c (.sc (.int .i64 s.1.1)))])
      (fun s => H ++ [.mapB .u16 .i64 s.1.2]) (fun s => n - s.1.1) ⟨(0, []), by simp, rfl, fun x => by simp [getM, idxM]⟩ (wk_tl (by simp)) ?_
    rintro ⟨⟨i, es⟩, hi, hsc, hes⟩
    simp only at hi hsc hes
    by_cases hlt : i < n
    · obtain ⟨s, hs⟩ : ∃ s, l[i]? = some s := ⟨l[i]'(by omega), List.getElem?_eq_getElem _⟩
      have z1 := hx i s hs
      obtain ⟨_, z1'⟩ := List.getElem?_eq_some_iff.1 z1
      have hlt' : (i : Int) < n := by omega
      have wr := wrapS i (by omega)
      have hws := hw s (List.mem_of_getElem? hs)
      have hsh : shrOf .u16 (s : Int) 12 = ((s / 4096 : Nat) : Int) := shr_nat .u16 s 12 (by decide)
      obtain ⟨y, hy⟩ : ∃ y, y = s / 4096 := ⟨_, rfl⟩
      rw [← hy] at hsh
      rw [scanS_step l hlt] at hsc
      have hgs := getD_at hs
      by_cases c1 : 4095 < s
      · have hb : badS l i = 1 := by unfold badS; rw [hgs, if_pos c1]
        rw [hb, if_neg (by decide)] at hsc
        rw [e, hsc, if_pos (by decide)] at q
        have hy0 : ¬y = 0 := by omega
        (repeat' (first | refine awp_seq ?_ | (refine awp_region tabOk ?_; simp [hlt, hlt', hc, hcL, z1, z1', hsh, hy0]) | (refine awp_if ?_; simp [hlt, hlt', hc, hcL, z1, z1', hsh, hy0]) | refine awp_block ?_ | refine And.intro ?_ ?_ | intro _ | (refine awp_skip ?_; simp [hlt, hlt', hc, hcL, z1, z1', hsh, hy0]) | (refine awp_ret ?_; simp [hlt, hlt', hc, hcL, z1, z1', hsh, hy0]) | (refine awp_exit ?_; simp [hlt, hlt', hc, hcL, z1, z1', hsh, hy0])))
        exact ⟨H, _, gcTo_none (fun _ => rfl), q⟩
      · have hy0 : y = 0 := by omega
        rw [hy0] at hsh
        push_cast at hsh
        have nxt : badS l i = 0 → (i + 1 ≤ n ∧ scanS l n 0 = scanS l (n - (i + 1)) (i + 1) ∧ ∀ x : Nat, getM (putM es s 1) x = if x ∈ l.take (i + 1) then 1 else 0) := fun hb => by
          rw [hb, if_pos rfl] at hsc
          refine ⟨by omega, hsc, fun x => ?_⟩
          rw [getM_put, hes x, take_snoc hs]
          by_cases ex : x = s
          · subst ex; simp
          · have ex' : ¬(x : Int) = s := by omega
            simp [ex, ex']
        by_cases hi0 : i = 0
        · subst hi0
          have hb : badS l 0 = 0 := by unfold badS; rw [hgs, if_neg c1, if_neg (by omega)]
          obtain ⟨m1, m2, m3⟩ := nxt hb
          rw [Nat.add_zero] at z1
          obtain ⟨_, z1'⟩ := List.getElem?_eq_some_iff.1 z1
          have w1 : IntKind.i64.wrap 1 = 1 := by decide
          (repeat' (first | refine awp_seq ?_ | (refine awp_region tabOk ?_; simp [hlt, hn0, hn0', hc, hcL, z1, z1', hsh, w1]) | (refine awp_if ?_; simp [hlt, hn0, hn0', hc, hcL, z1, z1', hsh, w1]) | refine awp_block ?_ | refine And.intro ?_ ?_ | intro _ | (refine awp_skip ?_; simp [hlt, hn0, hn0', hc, hcL, z1, z1', hsh, w1]) | (refine awp_ret ?_; simp [hlt, hn0, hn0', hc, hcL, z1, z1', hsh, w1]) | (refine awp_exit ?_; simp [hlt, hn0, hn0', hc, hcL, z1, z1', hsh, w1])))
          exact ⟨1, by omega, putM es s 1, ⟨m1, m2, m3⟩, wk_tl (by simp)⟩
        · obtain ⟨j, rfl⟩ : ∃ j, i = j + 1 := ⟨i - 1, by omega⟩
          obtain ⟨r, hr⟩ : ∃ s, l[j]? = some s := ⟨l[j]'(by omega), List.getElem?_eq_getElem _⟩
          have z2 := hx j r hr
          obtain ⟨_, z2'⟩ := List.getElem?_eq_some_iff.1 z2
          have hgr := getD_at hr
          have wj := wrap_in (j : Int) (by omega) (by omega)
          have wr2 : IntKind.i64.wrap ((j : Int) + 1 + 1) = (j : Int) + 1 + 1 := wrap_in _ (by omega) (by omega)
          have hj : j < n := by omega
          have hj' : (j : Int) < n := by omega
          have hj0 : (0 : Int) < (j : Int) + 1 := by omega
          have hj1 : (0 : Int) ≤ (j : Int) + 1 := by omega
          push_cast at hlt'
          by_cases c2 : s ≤ r
          · have hb : badS l (j + 1) = 4 := by unfold badS; rw [hgs, Nat.add_sub_cancel, hgr, if_neg c1, if_pos ⟨by omega, c2⟩]
            rw [hb, if_neg (by decide)] at hsc
            rw [e, hsc, if_pos (by decide)] at q
            (repeat' (first | refine awp_seq ?_ | (refine awp_region tabOk ?_; simp [hlt, hlt', hc, hcL, z1, z1', z2, z2', hsh, wj, hj, hj', hj0, hj1, c2]) | (refine awp_if ?_; simp [hlt, hlt', hc, hcL, z1, z1', z2, z2', hsh, wj, hj, hj', hj0, hj1, c2]) | refine awp_block ?_ | refine And.intro ?_ ?_ | intro _ | (refine awp_skip ?_; simp [hlt, hlt', hc, hcL, z1, z1', z2, z2', hsh, wj, hj, hj', hj0, hj1, c2]) | (refine awp_ret ?_; simp [hlt, hlt', hc, hcL, z1, z1', z2, z2', hsh, wj, hj, hj', hj0, hj1, c2]) | (refine awp_exit ?_; simp [hlt, hlt', hc, hcL, z1, z1', z2, z2', hsh, wj, hj, hj', hj0, hj1, c2])))
            exact ⟨H, _, gcTo_none (fun _ => rfl), q⟩
          · have hb : badS l (j + 1) = 0 := by unfold badS; rw [hgs, Nat.add_sub_cancel, hgr, if_neg c1, if_neg (fun h => c2 h.2)]
            obtain ⟨m1, m2, m3⟩ := nxt hb
            (repeat' (first | refine awp_seq ?_ | (refine awp_region tabOk ?_; simp [hlt, hlt', hc, hcL, z1, z1', z2, z2', hsh, wj, wr2, hj, hj', hj0, hj1, c2]) | (refine awp_if ?_; simp [hlt, hlt', hc, hcL, z1, z1', z2, z2', hsh, wj, wr2, hj, hj', hj0, hj1, c2]) | refine awp_block ?_ | refine And.intro ?_ ?_ | intro _ | (refine awp_skip ?_; simp [hlt, hlt', hc, hcL, z1, z1', z2, z2', hsh, wj, wr2, hj, hj', hj0, hj1, c2]) | (refine awp_ret ?_; simp [hlt, hlt', hc, hcL, z1, z1', z2, z2', hsh, wj, wr2, hj, hj', hj0, hj1, c2]) | (refine awp_exit ?_; simp [hlt, hlt', hc, hcL, z1, z1', z2, z2', hsh, wj, wr2, hj, hj', hj0, hj1, c2])))
            exact ⟨j + 1 + 1, by omega, putM es s 1, ⟨m1, m2, m3⟩, wk_tl (by simp)⟩
    · obtain rfl : i = n := by omega
      have hsc0 : scanS l i 0 = 0 := by rw [hsc, Nat.sub_self]; rfl
      rw [hsc0, if_neg (by simp)] at e
      have hsm : ∀ s ∈ l, s ≤ 4095 := fun s hs => small (by rw [hn]; exact hsc0) hs
      rw [show l.take i = l by rw [← hn, List.take_length]] at hes
      by_cases c3 : 300 < i
      · have c3' : (300 : Int) < i := by omega
        rw [e, if_pos c3] at q
        (repeat' (first | refine awp_seq ?_ | (refine awp_region tabOk ?_; simp [c3']) | (refine awp_if ?_; simp [c3']) | refine awp_block ?_ | refine And.intro ?_ ?_ | intro _ | (refine awp_skip ?_; simp [c3']) | (refine awp_ret ?_; simp [c3']) | (refine awp_exit ?_; simp [c3'])))
        exact ⟨H, _, gcTo_none (fun _ => rfl), q⟩
      · have c3' : ¬(300 : Int) < i := by omega
        rw [if_neg c3] at e
        (repeat' (first | refine awp_seq ?_ | (refine awp_region tabOk ?_; simp [c3']) | (refine awp_if ?_; simp [c3']) | refine awp_block ?_ | refine And.intro ?_ ?_ | intro _ | (refine awp_skip ?_; simp [c3']) | (refine awp_ret ?_; simp [c3']) | (refine awp_exit ?_; simp [c3'])))
        refine awp_loop_at (α := {x : Nat // x ≤ i ∧ ∀ s ∈ l.take x, ∀ t ∈ l, Cl2 l s t}) (fun x => [(0, .c (.sc (.sl id off 1 i cap))), (3, .c (.sc (.mp H.length))), (50, .c (.sc (.sl id off 1 i cap))), (51, .c (.sc (.int .i64 i))), (52, .c (.sc (.int .i64 x.1)))])
          (fun _ => H ++ [.mapB .u16 .i64 es]) (fun x => i - x.1) ⟨0, by omega, by simp⟩ (wk_tl (by simp)) ?_
        rintro ⟨x, hxi, hcl⟩
        by_cases hxl : x < i
        · obtain ⟨s, hs⟩ : ∃ s, l[x]? = some s := ⟨l[x]'(by omega), List.getElem?_eq_getElem _⟩
          have z1 := hx x s hs
          obtain ⟨_, z1'⟩ := List.getElem?_eq_some_iff.1 z1
          have hxl' : (x : Int) < i := by omega
          have wx := wrapS x (by omega)
          (repeat' (first | refine awp_seq ?_ | (refine awp_region tabOk ?_; simp [hxl, hxl', hc, hcL, z1, z1']) | (refine awp_if ?_; simp [hxl, hxl', hc, hcL, z1, z1']) | refine awp_block ?_ | refine And.intro ?_ ?_ | intro _ | (refine awp_skip ?_; simp [hxl, hxl', hc, hcL, z1, z1']) | (refine awp_ret ?_; simp [hxl, hxl', hc, hcL, z1, z1']) | (refine awp_exit ?_; simp [hxl, hxl', hc, hcL, z1, z1'])))
          refine awp_loop_at (α := {y : Nat // y ≤ i ∧ ∀ t ∈ l.take y, Cl2 l s t}) (fun y => [(0, .c (.sc (.sl id off 1 i cap))), (3, .c (.sc (.mp H.length))), (50, .c (.sc (.sl id off 1 i cap))), (51, .c (.sc (.int .i64 i))), (52, .c (.sc (.int .i64 x))), (7, .c (.sc (.int .u16 s))), (56, .c (.sc (.sl id off 1 i cap))), (57, .c (.sc (.int .i64 i))), (58, .c (.sc (.int .i64 y.1)))])
            (fun _ => H ++ [.mapB .u16 .i64 es]) (fun y => i - y.1) ⟨0, by omega, by simp⟩ (wk_tl (by simp)) ?_
          rintro ⟨y, hyi, hct⟩
          by_cases hyl : y < i
          · obtain ⟨t, ht⟩ : ∃ s, l[y]? = some s := ⟨l[y]'(by omega), List.getElem?_eq_getElem _⟩
            have z2 := hx y t ht
            obtain ⟨_, z2'⟩ := List.getElem?_eq_some_iff.1 z2
            have hyl' : (y : Int) < i := by omega
            have wy := wrapS y (by omega)
            have hms := hsm s (List.mem_of_getElem? hs)
            have hmt := hsm t (List.mem_of_getElem? ht)
            have ho := u16_or (a := s) (b := t) (by omega) (by omega)
            have hd := u16_and (a := s) (b := t) (by omega) (by omega)
            have g1 := hes (s ||| t)
            have g2 := hes (s &&& t)
            generalize hso : s ||| t = so at *
            generalize hsa : s &&& t = sa at *
            have w0 : IntKind.i64.wrap 0 = 0 := by decide
            have w1 : IntKind.i64.wrap 1 = 1 := by decide
            have w2 : IntKind.i64.wrap 2 = 2 := by decide
            by_cases d1 : so ∈ l <;> by_cases d2 : sa ∈ l
            · rw [if_pos d1] at g1
              rw [if_pos d2] at g2
              (repeat' (first | refine awp_seq ?_ | (refine awp_region tabOk ?_; simp [hyl, hyl', hc, hcL, z2, z2', ho, hd, g1, g2, w2, wy]) | (refine awp_if ?_; simp [hyl, hyl', hc, hcL, z2, z2', ho, hd, g1, g2, w2, wy]) | refine awp_block ?_ | refine And.intro ?_ ?_ | intro _ | (refine awp_skip ?_; simp [hyl, hyl', hc, hcL, z2, z2', ho, hd, g1, g2, w2, wy]) | (refine awp_ret ?_; simp [hyl, hyl', hc, hcL, z2, z2', ho, hd, g1, g2, w2, wy]) | (refine awp_exit ?_; simp [hyl, hyl', hc, hcL, z2, z2', ho, hd, g1, g2, w2, wy])))
              exact ⟨y + 1, by omega, ⟨by omega, fun t' h' => by
                rw [take_snoc ht] at h'
                rcases List.mem_append.1 h' with h | h
                · exact hct t' h
                · simp at h; subst h; exact ⟨by rw [hso]; exact d1, by rw [hsa]; exact d2⟩⟩, wk_tl (by simp [wy])⟩
            · have hno : ¬∀ s ∈ l, ∀ t ∈ l, Cl2 l s t := fun h => d2 (by have := (h s (List.mem_of_getElem? hs) t (List.mem_of_getElem? ht)).2; rwa [hsa] at this)
              rw [e, if_neg hno] at q
              rw [if_pos d1] at g1
              rw [if_neg d2] at g2
              (repeat' (first | refine awp_seq ?_ | (refine awp_region tabOk ?_; simp [hyl, hyl', hc, hcL, z2, z2', ho, hd, g1, g2, w1]) | (refine awp_if ?_; simp [hyl, hyl', hc, hcL, z2, z2', ho, hd, g1, g2, w1]) | refine awp_block ?_ | refine And.intro ?_ ?_ | intro _ | (refine awp_skip ?_; simp [hyl, hyl', hc, hcL, z2, z2', ho, hd, g1, g2, w1]) | (refine awp_ret ?_; simp [hyl, hyl', hc, hcL, z2, z2', ho, hd, g1, g2, w1]) | (refine awp_exit ?_; simp [hyl, hyl', hc, hcL, z2, z2', ho, hd, g1, g2, w1])))
              exact ⟨H, _, gcTo_none (fun _ => rfl), q⟩
            · have hno : ¬∀ s ∈ l, ∀ t ∈ l, Cl2 l s t := fun h => d1 (by have := (h s (List.mem_of_getElem? hs) t (List.mem_of_getElem? ht)).1; rwa [hso] at this)
              rw [e, if_neg hno] at q
              rw [if_neg d1] at g1
              rw [if_pos d2] at g2
              (repeat' (first | refine awp_seq ?_ | (refine awp_region tabOk ?_; simp [hyl, hyl', hc, hcL, z2, z2', ho, hd, g1, g2, w1]) | (refine awp_if ?_; simp [hyl, hyl', hc, hcL, z2, z2', ho, hd, g1, g2, w1]) | refine awp_block ?_ | refine And.intro ?_ ?_ | intro _ | (refine awp_skip ?_; simp [hyl, hyl', hc, hcL, z2, z2', ho, hd, g1, g2, w1]) | (refine awp_ret ?_; simp [hyl, hyl', hc, hcL, z2, z2', ho, hd, g1, g2, w1]) | (refine awp_exit ?_; simp [hyl, hyl', hc, hcL, z2, z2', ho, hd, g1, g2, w1])))
              exact ⟨H, _, gcTo_none (fun _ => rfl), q⟩
            · have hno : ¬∀ s ∈ l, ∀ t ∈ l, Cl2 l s t := fun h => d1 (by have := (h s (List.mem_of_getElem? hs) t (List.mem_of_getElem? ht)).1; rwa [hso] at this)
              rw [e, if_neg hno] at q
              rw [if_neg d1] at g1
              rw [if_neg d2] at g2
              (repeat' (first | refine awp_seq ?_ | (refine awp_region tabOk ?_; simp [hyl, hyl', hc, hcL, z2, z2', ho, hd, g1, g2, w0]) | (refine awp_if ?_; simp [hyl, hyl', hc, hcL, z2, z2', ho, hd, g1, g2, w0]) | refine awp_block ?_ | refine And.intro ?_ ?_ | intro _ | (refine awp_skip ?_; simp [hyl, hyl', hc, hcL, z2, z2', ho, hd, g1, g2, w0]) | (refine awp_ret ?_; simp [hyl, hyl', hc, hcL, z2, z2', ho, hd, g1, g2, w0]) | (refine awp_exit ?_; simp [hyl, hyl', hc, hcL, z2, z2', ho, hd, g1, g2, w0])))
              exact ⟨H, _, gcTo_none (fun _ => rfl), q⟩
          · obtain rfl : y = i := by omega
            (repeat' (first | refine awp_seq ?_ | (refine awp_region tabOk ?_; simp) | (refine awp_if ?_; simp) | refine awp_block ?_ | refine And.intro ?_ ?_ | intro _ | (refine awp_skip ?_; simp) | (refine awp_ret ?_; simp) | (refine awp_exit ?_; simp)))
            exact ⟨x + 1, by omega, ⟨by omega, fun s' h' t ht => by
              rw [take_snoc hs] at h'
              rcases List.mem_append.1 h' with h | h
              · exact hcl s' h t ht
              · simp at h; subst h; exact hct t (by rw [show l.take y = l by rw [← hn, List.take_length]]; exact ht)⟩, wk_tl (by simp [wx])⟩
        · obtain rfl : x = i := by omega
          rw [show l.take x = l by rw [← hn, List.take_length]] at hcl
          rw [e, if_pos hcl] at q
          (repeat' (first | refine awp_seq ?_ | (refine awp_region tabOk ?_; simp) | (refine awp_if ?_; simp) | refine awp_block ?_ | refine And.intro ?_ ?_ | intro _ | (refine awp_skip ?_; simp) | (refine awp_ret ?_; simp) | (refine awp_exit ?_; simp)))
          exact ⟨H, _, gcTo_none (fun _ => rfl), q⟩
  · have e : seErr l = 4 := by unfold seErr; rw [hn, if_neg (by omega), if_pos (by rw [getD_at hs0]; exact h3)]
    rw [e] at q
    have h3' : ¬(s0 : Int) = 0 := by omega
    (repeat' (first | refine awp_seq ?_ | (refine awp_region tabOk ?_; simp [h1', h2', hc, z0, z0', hn0, hn0', h3, h3']) | (refine awp_if ?_; simp [h1', h2', hc, z0, z0', hn0, hn0', h3, h3']) | refine awp_block ?_ | refine And.intro ?_ ?_ | intro _ | (refine awp_skip ?_; simp [h1', h2', hc, z0, z0', hn0, hn0', h3, h3']) | (refine awp_ret ?_; simp [h1', h2', hc, z0, z0', hn0, hn0', h3, h3']) | (refine awp_exit ?_; simp [h1', h2', hc, z0, z0', hn0, hn0', h3, h3'])))
    exact ⟨H, _, GcTo.refl (Nat.le_refl _), q⟩
end Go.Proofs.Ytjjhogleiolngaa
