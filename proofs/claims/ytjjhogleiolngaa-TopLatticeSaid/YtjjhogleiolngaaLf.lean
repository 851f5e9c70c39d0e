/- LatDowns: lat.Downs. -/
import Derived.Test.YtjjhogleiolngaaLe
namespace Go.Proofs.Ytjjhogleiolngaa
set_option linter.unusedSimpArgs false
set_option linter.unusedVariables false
open Go.RowKit
attribute [local irreducible] AWP ACalls Wk GcTo
attribute [local simp] tab3 ti3 tab4 ti4 tab29 ti29 tab36 ti36 tab62 ti62 tab38 ti38 tab40 ti40 tab44 ti44 tab140 ti140
open Po Cl
theorem fnU_zero : ([.int .u16 0, .int .u16 0, .int .u16 0, .int .u16 0, .int .u16 0, .int .u16 0, .int .u16 0, .int .u16 0, .int .u16 0, .int .u16 0, .int .u16 0, .int .u16 0] : List Sc) = fnU 12 (nd []) := rfl
noncomputable def dnS (n : Nat) (l : List Pa) : List Nat := dn (fun s => ra (clo l) n s n) (2 ^ n)
set_option maxRecDepth 100000 in
set_option maxHeartbeats 2000000 in
theorem latDowns {H : List Blk} {a : Sc} {n : Int} {l : List Pa} {Q : AV → List Blk → Prop} (ha : PSl H a l) (q0 : ¬poErr n l = 0 → Q (.tup [.sc .nils, .sc (.int .i64 (poErr n l))]) H)
    (q1 : poErr n l = 0 → 12 < n → Q (.tup [.sc .nils, .sc (.int .i64 2)]) H) (q2 : poErr n l = 0 → ¬12 < n → ∀ b L, USl (H ++ L) b (dnS n.toNat l) → Q (.tup [.sc b, .sc (.int .i64 0)]) (H ++ L)) :
    ACalls Try.prog 25 [.agg [.int .i64 n, a]] H Q := by
  refine acalls_of tabOk Try.func25 (by kernel_rfl) rfl (by kernel_rfl) ?_
  have hra := ha.ren
  have hgr := fun (m : Nat → Nat) (l : List Pa) => ren_gB (m := m) (enc := Pa.enc) (fun x => rfl) l
  have hgu := fun (m : Nat → Nat) (l : List Nat) => ren_gB (m := m) (enc := u16e) (fun x => rfl) l
  (repeat' (first | refine awp_seq ?_ | (refine awp_region tabOk ?_; simp) | (refine awp_if ?_; simp) | refine awp_block ?_ | refine And.intro ?_ ?_ | intro _ | (refine awp_skip ?_; simp) | (refine awp_ret ?_; simp) | (refine awp_exit ?_; simp)))
  refine posetClose (ha.app _) (fun he => ?_) (fun he => ?_)
  · have q := q0 he
    ((try simp [he]); (repeat' (first | refine awp_seq ?_ | (refine awp_region tabOk ?_; simp [he]) | (refine awp_if ?_; simp [he]) | refine awp_block ?_ | refine And.intro ?_ ?_ | intro _ | (refine awp_skip ?_; simp [he]) | (refine awp_ret ?_; simp [he]) | (refine awp_exit ?_; simp [he]))))
    exact ⟨H, _, gcTo_none (fun _ => rfl), q⟩
  obtain ⟨g1, g2, g3, g4⟩ := poErr_ok he
  by_cases hn : 12 < n
  · have q := q1 he hn
    ((try simp [hn]); (repeat' (first | refine awp_seq ?_ | (refine awp_region tabOk ?_; simp [hn]) | (refine awp_if ?_; simp [hn]) | refine awp_block ?_ | refine And.intro ?_ ?_ | intro _ | (refine awp_skip ?_; simp [hn]) | (refine awp_ret ?_; simp [hn]) | (refine awp_exit ?_; simp [hn]))))
    exact ⟨H, _, gcTo_none (fun _ => rfl), q⟩
  have q := q2 he hn
  obtain ⟨n, rfl⟩ := Int.eq_ofNat_of_zero_le g1
  rw [Int.toNat_natCast] at g4 q ⊢
  have hn12 : n ≤ 12 := by omega
  obtain ⟨pr, hpr⟩ : ∃ pr, pr = prU (clo l) n n := ⟨_, rfl⟩
  have hprm : ∀ p ∈ pr, ∃ x y : Nat, p = ⟨x, y⟩ ∧ x < n ∧ y < n := fun p hp => by
    rw [hpr] at hp; obtain ⟨i, j, h1, h2, h3, _⟩ := prU_mem.1 hp; exact ⟨i, j, h3, h1, h2⟩
  have hprl : pr.length ≤ 144 := by
    rw [hpr]; have h1 := prU_len (clo l) n n; have h2 : n * n ≤ 12 * 12 := Nat.mul_le_mul hn12 hn12; omega
  have hlen : lenC ⟨.slice 62, 1, 24, .sc .nils, none⟩ (.sc (gV 2 (H.length + 1) pr)) = some (pr.length : Int) := gV_lenC rfl
  rw [← hpr]
  ((try simp [-lenC, hlen, hn]); (repeat' (first | refine awp_seq ?_ | (refine awp_region tabOk ?_; simp [-lenC, hlen, hn]) | (refine awp_if ?_; simp [-lenC, hlen, hn]) | refine awp_block ?_ | refine And.intro ?_ ?_ | intro _ | (refine awp_skip ?_; simp [-lenC, hlen, hn]) | (refine awp_ret ?_; simp [-lenC, hlen, hn]) | (refine awp_exit ?_; simp [-lenC, hlen, hn]))))
  refine awp_loop_at (α := {t : Nat // t ≤ pr.length}) (fun t => [(1, .c (.sc (.ptr H.length 0))), (6, .c (.sc (.ptr (H.length + 2) 0))), (24, .c (.sc (gV 2 (H.length + 1) pr))), (25, .c (.sc (.int .i64 pr.length))), (26, .c (.sc (.int .i64 t.1)))])
    (fun t => H ++ [.own [.int .i64 n, a], gB Pa.enc pr, .own (fnU 12 (nd (pr.take t.1)))]) (fun t => pr.length - t.1) ⟨0, by omega⟩ (wk_tlE (by simp [fnU_zero]) (by simp)) ?_
  rintro ⟨t, ht⟩
  by_cases hlt : t < pr.length
  · obtain ⟨p, hp⟩ : ∃ p, pr[t]? = some p := ⟨pr[t], List.getElem?_eq_getElem hlt⟩
    obtain ⟨x, y, rfl, hx, hy⟩ := hprm p (List.mem_of_getElem? hp)
    have hne : pr.length ≠ 0 := by omega
    have wt := wrapS t (by omega)
    have hV := gV_ne (es := 2) (id := H.length + 1) hne
    have hB := gB_ne (enc := Pa.enc) hne
    obtain ⟨OF, hOF⟩ : ∃ OF, OF = pr.flatMap Pa.enc := ⟨_, rfl⟩
    have hfa := flat_at plen hp
    have hfl := flat_lt plen hlt
    have hOr : ∀ f : Nat → Nat, OF.map (renS f) = OF := fun f => by rw [hOF, List.map_flatMap]; congr 1
    rw [← hOF] at hfa hfl hB
    rw [penc_def] at hfa
    have x12 : x < 12 := by omega
    have y12 : y < 12 := by omega
    have y12' : (y : Int) < 12 := by omega
    have y11 : y ≤ 11 := by omega
    have hnd : nd (pr.take t) y < 2 ^ 16 := Nat.lt_of_lt_of_le (nd_lt (m := 12) (fun p hp => by obtain ⟨x, y, rfl, h1, h2⟩ := hprm p (List.mem_of_mem_take hp); simp; omega) y) (by decide)
    have hx2 : 2 ^ x < 2 ^ 16 := Nat.pow_lt_pow_right (by decide) (by omega)
    have hsl := shl_u16 (b := x) (by omega)
    have hor := u16_or hnd hx2
    have a1 := fnU_at (n := 12) (nd (pr.take t)) y12
    obtain ⟨_, a1'⟩ := List.getElem?_eq_some_iff.1 a1
    have st := fnU_set (n := 12) (nd (pr.take t)) y12 (nd (pr.take t) y ||| 2 ^ x)
    have hup : (fun j => if j = y then nd (pr.take t) y ||| 2 ^ x else nd (pr.take t) j) = nd (pr.take (t + 1)) := by
      funext j; rw [take_snoc hp, nd_snoc]; simp only [Int.toNat_natCast]
      by_cases e : j = y
      · subst e; simp
      · rw [if_neg e, if_neg (fun e' => e e'.symm)]
    rw [hup] at st
    generalize nd (pr.take t) y = N1 at *
    generalize N1 ||| 2 ^ x = N3 at *
    generalize 2 ^ x = N2 at *
    (repeat' (first | refine awp_seq ?_ | (refine awp_region tabOk ?_; simp [hlt, hV, hB, hfa, hfl]) | (refine awp_if ?_; simp [hlt, hV, hB, hfa, hfl]) | refine awp_block ?_ | refine And.intro ?_ ?_ | intro _ | (refine awp_skip ?_; simp [hlt, hV, hB, hfa, hfl]) | (refine awp_ret ?_; simp [hlt, hV, hB, hfa, hfl]) | (refine awp_exit ?_; simp [hlt, hV, hB, hfa, hfl])))
    refine awp_draw tabOk mixed [] (by kernel_rfl) ?_
    simp [y12, y12', y11, a1, a1', hsl, hor, st]
    (repeat' (first | refine awp_seq ?_ | (refine awp_region tabOk ?_; simp [wt]) | (refine awp_if ?_; simp [wt]) | refine awp_block ?_ | refine And.intro ?_ ?_ | intro _ | (refine awp_skip ?_; simp [wt]) | (refine awp_ret ?_; simp [wt]) | (refine awp_exit ?_; simp [wt])))
    exact ⟨t + 1, by omega, by omega, wk_gcl [0, 1, 2] (gcOk_of (by decide) (by simp [hra, hB, hOr])) (by simp [hV, wt])⟩
  · obtain rfl : t = pr.length := by omega
    rw [List.take_length]
    have hsh := shl_i64 (b := n) (by omega)
    have h12 : 2 ^ n ≤ 2 ^ 12 := Nat.pow_le_pow_right (by decide) hn12
    obtain ⟨Z, hZ⟩ : ∃ Z, Z = 2 ^ n := ⟨_, rfl⟩
    have hq2 : dnS n l = dn (fun s => rg (nd pr) s n) Z := by
      unfold dnS; rw [hZ, hpr]; congr 1; funext s; exact (rg_ra _ _ _).symm
    rw [hq2] at q
    rw [← hZ] at hsh h12
    rw [show (2 : Nat) ^ 12 = 4096 from rfl] at h12
    have hnf : ∀ b, nd pr b < 2 ^ 16 := fun b => Nat.lt_of_lt_of_le (nd_lt (m := 12) (fun p hp => by obtain ⟨x, y, rfl, h1, h2⟩ := hprm p hp; simp; omega) b) (by decide)
    generalize nd pr = F at *
    (repeat' (first | refine awp_seq ?_ | (refine awp_region tabOk ?_; simp [hsh]) | (refine awp_if ?_; simp [hsh]) | refine awp_block ?_ | refine And.intro ?_ ?_ | intro _ | (refine awp_skip ?_; simp [hsh]) | (refine awp_ret ?_; simp [hsh]) | (refine awp_exit ?_; simp [hsh])))
    refine awp_loop_at (α := {s : Nat // s ≤ Z}) (fun s => [(1, .c (.sc (.ptr H.length 0))), (6, .c (.sc (.ptr (H.length + 1) 0))), (9, .c (.sc (gV 1 (H.length + 2) (dn (fun s => rg F s n) s.1)))), (42, .c (.sc (.int .i64 Z))), (43, .c (.sc (.int .i64 s.1)))])
      (fun s => H ++ [.own [.int .i64 n, a], .own (fnU 12 F), gB u16e (dn (fun s => rg F s n) s.1)]) (fun s => Z - s.1) ⟨0, by omega⟩ (wk_gcl [0, 2, 9] (gcOk_of (by decide) (by simp [hra, dn])) (by simp [dn])) ?_
    rintro ⟨s, hs⟩
    by_cases hsz : s < Z
    · have ws := wrapS s (by omega)
      have hsz' : (s : Int) < Z := by omega
      (repeat' (first | refine awp_seq ?_ | (refine awp_region tabOk ?_; simp [hsz]) | (refine awp_if ?_; simp [hsz]) | refine awp_block ?_ | refine And.intro ?_ ?_ | intro _ | (refine awp_skip ?_; simp [hsz]) | (refine awp_ret ?_; simp [hsz]) | (refine awp_exit ?_; simp [hsz])))
      refine awp_loop_at (α := {k : Nat // k ≤ n}) (fun k => [(1, .c (.sc (.ptr H.length 0))), (6, .c (.sc (.ptr (H.length + 1) 0))), (9, .c (.sc (gV 1 (H.length + 2) (dn (fun s => rg F s n) s)))), (42, .c (.sc (.int .i64 Z))), (43, .c (.sc (.int .i64 s))), (10, .c (.sc (.int .i64 s))), (11, .c (.sc (.bool (rg F s k.1)))), (47, .c (.sc (.int .i64 n))), (48, .c (.sc (.int .i64 k.1)))])
        (fun k => H ++ [.own [.int .i64 n, a], .own (fnU 12 F), gB u16e (dn (fun s => rg F s n) s)]) (fun k => n - k.1) ⟨0, by omega⟩ (wk_tl (by simp [rg])) ?_
      rintro ⟨k, hk⟩
      by_cases hkn : k < n
      · have wk := wrapS k (by omega)
        have k12 : k < 12 := by omega
        have k12' : (k : Int) < 12 := by omega
        have hsr := shr_nat .i64 s k (by show k ≤ 64; omega)
        have hs1 : s / 2 ^ k ≤ s := Nat.div_le_self _ _
        have ha1 := i64_and1 (a := s / 2 ^ k) (by omega)
        have han := u16_and (a := s) (b := F k) (by omega) (hnf k)
        have wu := wrap_u16 (n := s) (by omega)
        have a1 := fnU_at (n := 12) F k12
        obtain ⟨_, a1'⟩ := List.getElem?_eq_some_iff.1 a1
        have hrg : rg F s (k + 1) = (rg F s k && (!s.testBit k || decide (s &&& F k = F k))) := rfl
        have hbc := bit_cases s k
        generalize s / 2 ^ k = y at *
        generalize s.testBit k = tb at *
        generalize rg F s k = r at *
        generalize hD : s &&& F k = D at *
        by_cases hd : D = F k
        · have hd' : (D : Int) = (F k : Nat) := by rw [hd]
          rw [hd, decide_eq_true rfl] at hrg
          rcases hbc with ⟨e1, rfl⟩ | ⟨e1, rfl⟩
          all_goals
            rw [e1] at ha1
            cases r
            all_goals
              (repeat' (first | refine awp_seq ?_ | (refine awp_region tabOk ?_; simp [hkn]) | (refine awp_if ?_; simp [hkn]) | refine awp_block ?_ | refine And.intro ?_ ?_ | intro _ | (refine awp_skip ?_; simp [hkn]) | (refine awp_ret ?_; simp [hkn]) | (refine awp_exit ?_; simp [hkn])))
              refine awp_draw tabOk mixed [] (by kernel_rfl) ?_
              simp [hsr, ha1, k12, k12', a1, a1', wu, han, hd, hd']
              (repeat' (first | refine awp_seq ?_ | (refine awp_region tabOk ?_; simp [wk]) | (refine awp_if ?_; simp [wk]) | refine awp_block ?_ | refine And.intro ?_ ?_ | intro _ | (refine awp_skip ?_; simp [wk]) | (refine awp_ret ?_; simp [wk]) | (refine awp_exit ?_; simp [wk])))
              exact ⟨k + 1, by omega, by omega, wk_tl (by simp [wk, hrg])⟩
        · have hd' : ¬(D : Int) = (F k : Nat) := by omega
          rw [decide_eq_false hd] at hrg
          rcases hbc with ⟨e1, rfl⟩ | ⟨e1, rfl⟩
          all_goals
            rw [e1] at ha1
            cases r
            all_goals
              (repeat' (first | refine awp_seq ?_ | (refine awp_region tabOk ?_; simp [hkn]) | (refine awp_if ?_; simp [hkn]) | refine awp_block ?_ | refine And.intro ?_ ?_ | intro _ | (refine awp_skip ?_; simp [hkn]) | (refine awp_ret ?_; simp [hkn]) | (refine awp_exit ?_; simp [hkn])))
              refine awp_draw tabOk mixed [] (by kernel_rfl) ?_
              simp [hsr, ha1, k12, k12', a1, a1', wu, han, hd, hd']
              (repeat' (first | refine awp_seq ?_ | (refine awp_region tabOk ?_; simp [wk]) | (refine awp_if ?_; simp [wk]) | refine awp_block ?_ | refine And.intro ?_ ?_ | intro _ | (refine awp_skip ?_; simp [wk]) | (refine awp_ret ?_; simp [wk]) | (refine awp_exit ?_; simp [wk])))
              exact ⟨k + 1, by omega, by omega, wk_tl (by simp [wk, hrg])⟩
      · obtain rfl : k = n := by omega
        have hds := dn_succ (fun s => rg F s k) s
        have hdl := dn_len (fun s => rg F s k) s
        have wu := wrap_u16 (n := s) (by omega)
        cases hr : rg F s k with
        | true =>
          rw [hr, if_pos rfl] at hds
          cases hO : dn (fun s => rg F s k) s with
          | nil =>
            rw [hO] at hds
            (repeat' (first | refine awp_seq ?_ | (refine awp_region tabOk ?_; simp [wu, maxLen, ws]) | (refine awp_if ?_; simp [wu, maxLen, ws]) | refine awp_block ?_ | refine And.intro ?_ ?_ | intro _ | (refine awp_skip ?_; simp [wu, maxLen, ws]) | (refine awp_ret ?_; simp [wu, maxLen, ws]) | (refine awp_exit ?_; simp [wu, maxLen, ws])))
            refine ⟨s + 1, by omega, by omega, ?_⟩
            rw [hds]
            exact wk_gcl [0, 1, 4] (gcOk_of (by decide) (by simp [gB, u16e, hra])) (by simp [ws])
          | cons o O =>
            rw [hO] at hds hdl
            obtain ⟨OF, hOF, hgB, hOFl, hOFt, hOFr⟩ := gB_own ulen uren o O
            rw [List.length_cons] at hdl
            rw [Nat.mul_one] at hOFl hOFt
            have hno : ¬O.length + 1 + 1 ≤ O.length + 1 := by omega
            have hml : (O.length + 1 + 1) * 2 ≤ 140737488355328 := by omega
            have hml1 : O.length + 1 + 1 ≤ 9223372036854775807 := by omega
            (repeat' (first | refine awp_seq ?_ | (refine awp_region tabOk ?_; simp [wu, maxLen, ws, hgB, hno, hml, hml1, hOFl, hOFt]) | (refine awp_if ?_; simp [wu, maxLen, ws, hgB, hno, hml, hml1, hOFl, hOFt]) | refine awp_block ?_ | refine And.intro ?_ ?_ | intro _ | (refine awp_skip ?_; simp [wu, maxLen, ws, hgB, hno, hml, hml1, hOFl, hOFt]) | (refine awp_ret ?_; simp [wu, maxLen, ws, hgB, hno, hml, hml1, hOFl, hOFt]) | (refine awp_exit ?_; simp [wu, maxLen, ws, hgB, hno, hml, hml1, hOFl, hOFt])))
            refine ⟨s + 1, by omega, by omega, ?_⟩
            rw [hds, gB_snoc, gV_snoc, ← hOF]
            exact wk_gcl [0, 1, 4] (gcOk_of (by decide) (by simp [hOFr, u16e, hra])) (by simp [ws])
        | false =>
          rw [hr, if_neg (by decide), List.append_nil] at hds
          (repeat' (first | refine awp_seq ?_ | (refine awp_region tabOk ?_; simp [ws]) | (refine awp_if ?_; simp [ws]) | refine awp_block ?_ | refine And.intro ?_ ?_ | intro _ | (refine awp_skip ?_; simp [ws]) | (refine awp_ret ?_; simp [ws]) | (refine awp_exit ?_; simp [ws])))
          exact ⟨s + 1, by omega, by omega, wk_tlE (by rw [hds]) (by simp [ws, hds])⟩
    · obtain rfl : s = Z := by omega
      (repeat' (first | refine awp_seq ?_ | (refine awp_region tabOk ?_; simp) | (refine awp_if ?_; simp) | refine awp_block ?_ | refine And.intro ?_ ?_ | intro _ | (refine awp_skip ?_; simp) | (refine awp_ret ?_; simp) | (refine awp_exit ?_; simp)))
      exact ⟨H ++ [gB u16e (dn (fun s => rg F s n) s)], .tup [.sc (gV 1 H.length (dn (fun s => rg F s n) s)), .sc (.int .i64 0)], gcTo_std [2] (gcOk_of (by decide) (by simp [hgu])) (by simp), q _ _ (GSl.own ulen (by simp))⟩
end Go.Proofs.Ytjjhogleiolngaa
