/- LatMaps: partref.Still, the law. -/
import Derived.Test.YtjjhogleiolngaaUf
namespace Go.Proofs.Ytjjhogleiolngaa
set_option linter.unusedSimpArgs false
set_option linter.unusedVariables false
open Go.RowKit
attribute [local irreducible] AWP ACalls Wk GcTo
attribute [local simp] tab3 ti3 tab4 ti4 tab29 ti29 tab40 ti40 tab44 ti44 tab47 ti47
open Se
set_option maxRecDepth 100000 in
set_option maxHeartbeats 2000000 in
theorem refStill {H : List Blk} {a b : Sc} {l : List Nat} {f : List Int} {Q : AV → List Blk → Prop} (ha : USl H a l) (hb : ISl H b f) (hO : Ok l f) {lo hi : Nat} (hlo : LoP l f lo) (hhi : HiP l f hi)
    (q : Q (.tup [.sc (.int .i64 lo), .sc (.int .i64 hi)]) H) :
    ACalls Try.prog 31 [.sc a, .sc b] H Q := by
  refine acalls_of tabOk Try.func31 (by kernel_rfl) rfl (by kernel_rfl) ?_
  have la := ha.len (i := ti40) (e := 44) rfl
  simp only [ti40] at la
  have hl1 := hO.lt.len
  have hfl := hO.len
  obtain ⟨fid, foff, fcap, fcs, hbe, hfcap, hfc, hfx⟩ := hb.at (i := 0) (by omega)
  obtain ⟨id, off, cap, cs, hae, hcap, hc, hx⟩ := usl_at ha (by omega)
  obtain ⟨n, hn⟩ : ∃ n, l.length = n := ⟨_, rfl⟩
  rw [hfl, hn] at hbe hfcap
  rw [hn] at hae hcap la hl1
  subst hbe
  subst hae
  have hget : ∀ k, k < n → ∃ s, l[k]? = some s ∧ l.getD k 0 = s ∧ s ∈ l := fun k hk => ⟨l[k]'(by omega), List.getElem?_eq_getElem _, getD_at (List.getElem?_eq_getElem _), List.getElem_mem _⟩
  have wn : IntKind.i64.wrap ((n : Int) - 1) = ((n - 1 : Nat) : Int) := by rw [wrap_in _ (by omega) (by omega)]; omega
  obtain ⟨t, ht, hgt, htm⟩ := hget (n - 1) (by omega)
  obtain ⟨s0, hs0, hgs0, hsm0⟩ := hget 0 (by omega)
  have zt := hx _ t ht
  obtain ⟨_, zt'⟩ := List.getElem?_eq_some_iff.1 zt
  have z0 := hx 0 s0 hs0
  obtain ⟨_, z0'⟩ := List.getElem?_eq_some_iff.1 z0
  rw [Nat.add_zero] at z0
  simp only [Nat.add_zero] at z0'
  have hnn : n - 1 < n := by omega
  have hnn' : ((n - 1 : Nat) : Int) < n := by omega
  have hn0 : 0 < n := by omega
  have hn0' : (0 : Int) < n := by omega
  have e0 : lwU l f 0 = t := by show l.getD (l.length - 1) 0 = t; rw [hn, hgt]
  have e1 : hwU l f 0 = s0 := hgs0
  have f1 : l.getD lo 0 = lwU l f n := by rw [← hn]; exact (lwU_eq hO hlo).symm
  have f2 : l.getD hi 0 = hwU l f n := by rw [← hn]; exact (hwU_eq hO hhi).symm
  (repeat' (first | refine awp_seq ?_ | (refine awp_region tabOk ?_; simp) | (refine awp_if ?_; simp) | refine awp_block ?_ | refine And.intro ?_ ?_ | intro _ | (refine awp_skip ?_; simp) | (refine awp_ret ?_; simp) | (refine awp_exit ?_; simp)))
  refine awp_draw tabOk mixed [] (by kernel_rfl) ?_
  simp [-lenC, la, wn, hnn, hnn', hn0, hn0', hc, zt, zt', z0, z0']
  (repeat' (first | refine awp_seq ?_ | (refine awp_region tabOk ?_; simp [-lenC, la]) | (refine awp_if ?_; simp [-lenC, la]) | refine awp_block ?_ | refine And.intro ?_ ?_ | intro _ | (refine awp_skip ?_; simp [-lenC, la]) | (refine awp_ret ?_; simp [-lenC, la]) | (refine awp_exit ?_; simp [-lenC, la])))
  refine awp_loop_at (α := {i : Nat // i ≤ n}) (fun i => [(0, .c (.sc (.sl id off 1 n cap))), (1, .c (.sc (.sl fid foff 1 n fcap))), (6, .c (.sc (.int .u16 (lwU l f i.1 : Nat)))), (7, .c (.sc (.int .u16 (hwU l f i.1 : Nat)))), (19, .c (.sc (.sl id off 1 n cap))), (20, .c (.sc (.int .i64 n))), (21, .c (.sc (.int .i64 i.1)))]) (fun _ => H) (fun i => n - i.1) ⟨0, by omega⟩ (wk_tl (by simp [e0, e1])) ?_
  rintro ⟨i, hi'⟩
  by_cases hin : i < n
  · obtain ⟨s, hs, hgs, hsm⟩ := hget i hin
    obtain ⟨hm, hmi⟩ := hO.ph (k := i) (by omega)
    obtain ⟨m, hpm⟩ : ∃ m, ph f i = m := ⟨_, rfl⟩
    rw [hpm] at hm hmi
    rw [hn] at hmi
    obtain ⟨u, hu, hgu, hum⟩ := hget m hmi
    have z1 := hx i s hs
    obtain ⟨_, z1'⟩ := List.getElem?_eq_some_iff.1 z1
    have y1 := hfx i _ hm
    obtain ⟨_, y1'⟩ := List.getElem?_eq_some_iff.1 y1
    have x1 := hx m u hu
    obtain ⟨_, x1'⟩ := List.getElem?_eq_some_iff.1 x1
    have hin' : (i : Int) < n := by omega
    have hmi' : (m : Int) < n := by omega
    have wx := wrapS i (by omega)
    have b1 := hO.lt.small hsm
    have b2 := hO.lt.small hum
    have b3 := lwU_le (f := f) hO.lt i
    have b4 := hwU_le (f := f) hO.lt i (by omega)
    have o1 := u16_or (a := u) (b := s) (by omega) (by omega)
    have o2 := u16_and (a := lwU l f i) (b := s) (by omega) (by omega)
    have o3 := u16_or (a := hwU l f i) (b := s) (by omega) (by omega)
    have l1 : u ||| s = s → lwU l f (i + 1) = lwU l f i &&& s := fun h => by
      simp only [lwU]; rw [hgs, hpm, hgu, if_pos ((or_sub _ _).1 h)]
    have l2 : ¬u ||| s = s → lwU l f (i + 1) = lwU l f i := fun h => by
      simp only [lwU]; rw [hgs, hpm, hgu, if_neg fun k => h ((or_sub _ _).2 k)]
    have h1 : u ||| s = u → hwU l f (i + 1) = hwU l f i ||| s := fun h => by
      simp only [hwU]; rw [hgs, hpm, hgu, if_pos ((or_sub _ _).1 (by rw [Nat.or_comm]; exact h))]
    have h2 : ¬u ||| s = u → hwU l f (i + 1) = hwU l f i := fun h => by
      simp only [hwU]; rw [hgs, hpm, hgu, if_neg fun k => h (by rw [Nat.or_comm]; exact (or_sub _ _).2 k)]
    generalize hS : u ||| s = S at *
    generalize hP : lwU l f i &&& s = P at *
    generalize hR : hwU l f i ||| s = R at *
    by_cases d1 : S = s
    · have l3 := l1 d1
      have d1' : (S : Int) = s := by omega
      (repeat' (first | refine awp_seq ?_ | (refine awp_region tabOk ?_; simp [hin, hin', hc, z1, z1', hfc, y1, y1', hmi, hmi', x1, x1', o1, o2, d1, d1']) | (refine awp_if ?_; simp [hin, hin', hc, z1, z1', hfc, y1, y1', hmi, hmi', x1, x1', o1, o2, d1, d1']) | refine awp_block ?_ | refine And.intro ?_ ?_ | intro _ | (refine awp_skip ?_; simp [hin, hin', hc, z1, z1', hfc, y1, y1', hmi, hmi', x1, x1', o1, o2, d1, d1']) | (refine awp_ret ?_; simp [hin, hin', hc, z1, z1', hfc, y1, y1', hmi, hmi', x1, x1', o1, o2, d1, d1']) | (refine awp_exit ?_; simp [hin, hin', hc, z1, z1', hfc, y1, y1', hmi, hmi', x1, x1', o1, o2, d1, d1'])))
      refine awp_draw tabOk mixed [] (by kernel_rfl) ?_
      by_cases d2 : S = u
      · have h3 := h1 d2
        have d2' : (S : Int) = u := by omega
        have d3 : (s : Int) = u := by omega
        have d4 : s = u := by omega
        have o4 := o3
        rw [d4] at o4
        have o5 := o1
        rw [d4, d2] at o5
        simp [o5, hin, hin', hc, z1, z1', hfc, y1, y1', hmi, hmi', x1, x1', o1, o3, d1, d1', d2, d2', d3, d4]
        (repeat' (first | refine awp_seq ?_ | (refine awp_region tabOk ?_; simp [wx, o3, o4, o5]) | (refine awp_if ?_; simp [wx, o3, o4, o5]) | refine awp_block ?_ | refine And.intro ?_ ?_ | intro _ | (refine awp_skip ?_; simp [wx, o3, o4, o5]) | (refine awp_ret ?_; simp [wx, o3, o4, o5]) | (refine awp_exit ?_; simp [wx, o3, o4, o5])))
        exact ⟨i + 1, by omega, by omega, wk_tl (by simp [wx, l3, h3])⟩
      · have h3 := h2 d2
        have d2' : ¬(S : Int) = u := by omega
        have d3 : ¬(s : Int) = u := by omega
        have d4 : ¬s = u := by omega
        simp [hin, hin', hc, z1, z1', hfc, y1, y1', hmi, hmi', x1, x1', o1, o3, d1, d1', d2, d2', d3, d4]
        (repeat' (first | refine awp_seq ?_ | (refine awp_region tabOk ?_; simp [wx]) | (refine awp_if ?_; simp [wx]) | refine awp_block ?_ | refine And.intro ?_ ?_ | intro _ | (refine awp_skip ?_; simp [wx]) | (refine awp_ret ?_; simp [wx]) | (refine awp_exit ?_; simp [wx])))
        exact ⟨i + 1, by omega, by omega, wk_tl (by simp [wx, l3, h3])⟩
    · have l3 := l2 d1
      have d1' : ¬(S : Int) = s := by omega
      (repeat' (first | refine awp_seq ?_ | (refine awp_region tabOk ?_; simp [hin, hin', hc, z1, z1', hfc, y1, y1', hmi, hmi', x1, x1', o1, o2, d1, d1']) | (refine awp_if ?_; simp [hin, hin', hc, z1, z1', hfc, y1, y1', hmi, hmi', x1, x1', o1, o2, d1, d1']) | refine awp_block ?_ | refine And.intro ?_ ?_ | intro _ | (refine awp_skip ?_; simp [hin, hin', hc, z1, z1', hfc, y1, y1', hmi, hmi', x1, x1', o1, o2, d1, d1']) | (refine awp_ret ?_; simp [hin, hin', hc, z1, z1', hfc, y1, y1', hmi, hmi', x1, x1', o1, o2, d1, d1']) | (refine awp_exit ?_; simp [hin, hin', hc, z1, z1', hfc, y1, y1', hmi, hmi', x1, x1', o1, o2, d1, d1'])))
      refine awp_draw tabOk mixed [] (by kernel_rfl) ?_
      by_cases d2 : S = u
      · have h3 := h1 d2
        have d2' : (S : Int) = u := by omega
        simp [hin, hin', hc, z1, z1', hfc, y1, y1', hmi, hmi', x1, x1', o1, o3, d1, d1', d2, d2']
        (repeat' (first | refine awp_seq ?_ | (refine awp_region tabOk ?_; simp [wx, o3]) | (refine awp_if ?_; simp [wx, o3]) | refine awp_block ?_ | refine And.intro ?_ ?_ | intro _ | (refine awp_skip ?_; simp [wx, o3]) | (refine awp_ret ?_; simp [wx, o3]) | (refine awp_exit ?_; simp [wx, o3])))
        exact ⟨i + 1, by omega, by omega, wk_tl (by simp [wx, l3, h3])⟩
      · have h3 := h2 d2
        have d2' : ¬(S : Int) = u := by omega
        simp [hin, hin', hc, z1, z1', hfc, y1, y1', hmi, hmi', x1, x1', o1, o3, d1, d1', d2, d2']
        (repeat' (first | refine awp_seq ?_ | (refine awp_region tabOk ?_; simp [wx]) | (refine awp_if ?_; simp [wx]) | refine awp_block ?_ | refine And.intro ?_ ?_ | intro _ | (refine awp_skip ?_; simp [wx]) | (refine awp_ret ?_; simp [wx]) | (refine awp_exit ?_; simp [wx])))
        exact ⟨i + 1, by omega, by omega, wk_tl (by simp [wx, l3, h3])⟩
  · obtain rfl : i = n := by omega
    (repeat' (first | refine awp_seq ?_ | (refine awp_region tabOk ?_; simp) | (refine awp_if ?_; simp) | refine awp_block ?_ | refine And.intro ?_ ?_ | intro _ | (refine awp_skip ?_; simp) | (refine awp_ret ?_; simp) | (refine awp_exit ?_; simp)))
    refine indexU16 ha hO.lt hlo.lt f1 ?_
    ((try simp); (repeat' (first | refine awp_seq ?_ | (refine awp_region tabOk ?_; simp) | (refine awp_if ?_; simp) | refine awp_block ?_ | refine And.intro ?_ ?_ | intro _ | (refine awp_skip ?_; simp) | (refine awp_ret ?_; simp) | (refine awp_exit ?_; simp))))
    refine indexU16 ha hO.lt hhi.lt f2 ?_
    ((try simp); (repeat' (first | refine awp_seq ?_ | (refine awp_region tabOk ?_; simp) | (refine awp_if ?_; simp) | refine awp_block ?_ | refine And.intro ?_ ?_ | intro _ | (refine awp_skip ?_; simp) | (refine awp_ret ?_; simp) | (refine awp_exit ?_; simp))))
    exact ⟨H, _, GcTo.refl (Nat.le_refl _), q⟩
set_option maxRecDepth 100000 in
set_option maxHeartbeats 2000000 in
theorem maps_law {H : List Blk} {a b : Sc} {l : List Nat} {f : List Int} {Q : AV → List Blk → Prop} (ha : USl H a l) (hb : ISl H b f) (hw : ∀ s ∈ l, s < 65536) (q : Q (.c (.sc (.bool true))) H) :
    ACalls Try.prog 5 [.sc a, .sc b] H Q := by
  refine acalls_of tabOk Try.func5 (by kernel_rfl) rfl (by kernel_rfl) ?_
  (repeat' (first | refine awp_seq ?_ | (refine awp_region tabOk ?_; simp) | (refine awp_if ?_; simp) | refine awp_block ?_ | refine And.intro ?_ ?_ | intro _ | (refine awp_skip ?_; simp) | (refine awp_ret ?_; simp) | (refine awp_exit ?_; simp)))
  refine mapErr ha hb hw ?_
  ((try simp); (repeat' (first | refine awp_seq ?_ | (refine awp_region tabOk ?_; simp) | (refine awp_if ?_; simp) | refine awp_block ?_ | refine And.intro ?_ ?_ | intro _ | (refine awp_skip ?_; simp) | (refine awp_ret ?_; simp) | (refine awp_exit ?_; simp))))
  refine latStill ha hb hw (fun he => ?_) (fun he lo hi hlo hhi => ?_)
  · ((try simp); (repeat' (first | refine awp_seq ?_ | (refine awp_region tabOk ?_; simp) | (refine awp_if ?_; simp) | refine awp_block ?_ | refine And.intro ?_ ?_ | intro _ | (refine awp_skip ?_; simp) | (refine awp_ret ?_; simp) | (refine awp_exit ?_; simp))))
    refine latRises ha hb hw ?_
    ((try simp [he]); (repeat' (first | refine awp_seq ?_ | (refine awp_region tabOk ?_; simp [he]) | (refine awp_if ?_; simp [he]) | refine awp_block ?_ | refine And.intro ?_ ?_ | intro _ | (refine awp_skip ?_; simp [he]) | (refine awp_ret ?_; simp [he]) | (refine awp_exit ?_; simp [he]))))
    exact ⟨H, _, GcTo.refl (Nat.le_refl _), q⟩
  · ((try simp); (repeat' (first | refine awp_seq ?_ | (refine awp_region tabOk ?_; simp) | (refine awp_if ?_; simp) | refine awp_block ?_ | refine And.intro ?_ ?_ | intro _ | (refine awp_skip ?_; simp) | (refine awp_ret ?_; simp) | (refine awp_exit ?_; simp))))
    refine latRises ha hb hw ?_
    ((try simp [he]); (repeat' (first | refine awp_seq ?_ | (refine awp_region tabOk ?_; simp [he]) | (refine awp_if ?_; simp [he]) | refine awp_block ?_ | refine And.intro ?_ ?_ | intro _ | (refine awp_skip ?_; simp [he]) | (refine awp_ret ?_; simp [he]) | (refine awp_exit ?_; simp [he]))))
    refine refStill ha hb (ok_of he) hlo hhi ?_
    ((try simp); (repeat' (first | refine awp_seq ?_ | (refine awp_region tabOk ?_; simp) | (refine awp_if ?_; simp) | refine awp_block ?_ | refine And.intro ?_ ?_ | intro _ | (refine awp_skip ?_; simp) | (refine awp_ret ?_; simp) | (refine awp_exit ?_; simp))))
    exact ⟨H, _, GcTo.refl (Nat.le_refl _), q⟩
end Go.Proofs.Ytjjhogleiolngaa
