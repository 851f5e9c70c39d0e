/- Histories: vect.Vectors. -/
import Derived.Test.YtjjhogleiolngaaVd
namespace Go.Proofs.Ytjjhogleiolngaa
set_option linter.unusedSimpArgs false
set_option linter.unusedVariables false
open Go.RowKit
attribute [local irreducible] AWP ACalls Wk GcTo
attribute [local simp] tab3 ti3 tab4 ti4 tab23 ti23 tab24 ti24 tab28 ti28 tab29 ti29 tab135 ti135 tab132 ti132 tab133 ti133
open Hi
/-- Rows of six ints. -/
def tbC (n : Nat) (c : Nat → Nat → Int) : List Sc := fnC (n * 6) fun q => c (q / 6) (q % 6)
section
variable {n : Nat} {c : Nat → Nat → Int}
@[simp] theorem tbC_len : (tbC n c).length = n * 6 := by simp [tbC]
theorem tbC_at {r j : Nat} (h : r < n) (hj : j < 6) : (tbC n c)[r * 6 + j]? = some (.int .i64 (c r j)) := by
  unfold tbC
  rw [fnC_at _ (by omega), show (r * 6 + j) / 6 = r by omega, show (r * 6 + j) % 6 = j by omega]
theorem tbC_ext {d : Nat → Nat → Int} (h : ∀ r j, r < n → j < 6 → c r j = d r j) : tbC n c = tbC n d :=
  fnC_ext fun q hq => h _ _ (by omega) (by omega)
theorem tbC_row {r : Nat} (h : r < n) : ((tbC n c).drop (r * 6)).take 6 = Mt.vs (c r) := by
  apply List.ext_getElem?
  intro k
  by_cases hk : k < 6
  · rw [List.getElem?_take_of_lt hk, List.getElem?_drop, tbC_at h hk, Mt.vs_at _ hk]
  · rw [List.getElem?_eq_none (by simp; omega), List.getElem?_eq_none (by simp; omega)]
theorem tbC_set {r j : Nat} (h : r < n) (hj : j < 6) (x : Int) : (tbC n c).set (r * 6 + j) (.int .i64 x) = tbC n (fun r' => if r' = r then (fun j' => if j' = j then x else c r j') else c r') := by
  unfold tbC
  rw [fnC_set _ (by omega)]
  refine fnC_ext fun q hq => ?_
  by_cases e : q = r * 6 + j
  · subst e
    simp only [show (r * 6 + j) / 6 = r by omega, show (r * 6 + j) % 6 = j by omega, if_pos]
  · rw [if_neg e]
    by_cases e1 : q / 6 = r
    · have e2 : ¬q % 6 = j := by omega
      simp only [e1, e2, if_true, if_false]
    · simp only [e1, if_false]
theorem tbC_splice {r : Nat} (h : r < n) (f : Nat → Int) : splice (r * 6) (Mt.vs f) (tbC n c) = tbC n (fun r' => if r' = r then f else c r') := by
  apply List.ext_getElem?
  intro q
  rw [splice_get _ _ _ _ (by simp; omega)]
  by_cases hq : q < n * 6
  · have e1 : (tbC n c)[q]? = some (.int .i64 (c (q / 6) (q % 6))) := by
      have := tbC_at (n := n) (c := c) (r := q / 6) (j := q % 6) (by omega) (by omega)
      rwa [show q / 6 * 6 + q % 6 = q by omega] at this
    have e2 : (tbC n (fun r' => if r' = r then f else c r'))[q]? = some (.int .i64 (if q / 6 = r then f (q % 6) else c (q / 6) (q % 6))) := by
      have := tbC_at (n := n) (c := fun r' => if r' = r then f else c r') (r := q / 6) (j := q % 6) (by omega) (by omega)
      rw [show q / 6 * 6 + q % 6 = q by omega] at this
      rw [this]
      by_cases e : q / 6 = r
      · simp [e]
      · simp [e]
    rw [e1, e2]
    by_cases hr : r * 6 ≤ q ∧ q < r * 6 + 6
    · rw [if_pos (by simpa using hr), Mt.vs_at _ (by omega), if_pos (by omega), show q - r * 6 = q % 6 by omega]
    · rw [if_neg (by simpa using hr), if_neg (by omega)]
  · rw [if_neg (by simp; omega), List.getElem?_eq_none (by simp; omega), List.getElem?_eq_none (by simp; omega)]
@[simp] theorem tbC_ren (m : Nat → Nat) : (tbC n c).map (renS m) = tbC n c := by simp [tbC]
end
theorem tb36 : fnC 36 (fun _ => 0) = tbC 6 (fun _ _ => 0) := rfl
theorem tb180 : fnC 180 (fun _ => 0) = tbC 30 (fun _ _ => 0) := rfl
theorem vlen (f : Nat → Int) : (Mt.vs f).length = 6 := rfl
abbrev VSl (H : List Blk) (a : Sc) (xs : List (Nat → Int)) : Prop := GSl 6 Mt.vs H a xs
theorem gB_own {α : Type} {enc : α → List Sc} {es : Nat} (hl : ∀ x, (enc x).length = es) (hr : ∀ (f : Nat → Nat) (x : α), (enc x).map (renS f) = enc x) (o : α) (O : List α) :
    ∃ OF, OF = (o :: O).flatMap enc ∧ gB enc (o :: O) = .own OF ∧ OF.length = (O.length + 1) * es ∧ OF.take ((O.length + 1) * es) = OF ∧ ∀ f : Nat → Nat, OF.map (renS f) = OF := by
  refine ⟨_, rfl, rfl, by rw [flat_len hl]; rfl, flat_all hl _ rfl, fun f => ?_⟩
  rw [List.map_flatMap]; congr 1; funext x; exact hr f x
set_option maxRecDepth 100000 in
set_option maxHeartbeats 1000000 in
theorem vectVectorsX {H : List Blk} {a : Sc} {xs : List Ev} {Q : AV → List Blk → Prop} (ha : ESl H a xs) (q0 : ¬hErr xs = 0 → Q (.tup [.sc .nils, .sc (.int .i64 (hErr xs))]) H)
    (q1 : hErr xs = 0 → Q (.tup [.sc (gV 6 H.length (vosL xs)), .sc (.int .i64 0)]) (H ++ [gB Mt.vs (vosL xs)])) :
    ACalls Try.prog 20 [.sc a] H Q := by
  refine acalls_of tabOk Try.func20 (by kernel_rfl) rfl (by kernel_rfl) ?_
  have la := ha.len (i := ti24) (e := 135) rfl
  have hra := ha.ren
  simp only [ti24] at la
  (repeat' (first | refine awp_seq ?_ | (refine awp_region tabOk ?_; simp) | (refine awp_if ?_; simp) | refine awp_block ?_ | refine And.intro ?_ ?_ | intro _ | (refine awp_skip ?_; simp) | (refine awp_ret ?_; simp) | (refine awp_exit ?_; simp)))
  refine stampCheck ha ?_
  by_cases he : hErr xs = 0
  · have q := q1 he
    have hR := right_of he
    have hl := hR.len
    ((try simp [he, -lenC, la]); (repeat' (first | refine awp_seq ?_ | (refine awp_region tabOk ?_; simp [he, -lenC, la]) | (refine awp_if ?_; simp [he, -lenC, la]) | refine awp_block ?_ | refine And.intro ?_ ?_ | intro _ | (refine awp_skip ?_; simp [he, -lenC, la]) | (refine awp_ret ?_; simp [he, -lenC, la]) | (refine awp_exit ?_; simp [he, -lenC, la]))))
    refine awp_loop_at (α := {i : Nat // i ≤ xs.length}) (fun i => [(5, .c (.sc (.ptr H.length 0))), (6, .c (.sc (.ptr (H.length + 1) 0))), (7, .c (.sc (gV 6 (H.length + 2) ((vosL xs).take i.1)))), (16, .c (.sc a)), (17, .c (.sc (.int .i64 xs.length))), (18, .c (.sc (.int .i64 i.1)))])
      (fun i => H ++ [.own (tbC 6 (Vc.st (eP xs) (eM xs) (eK xs) i.1).1), .own (tbC 30 (Vc.st (eP xs) (eM xs) (eK xs) i.1).2), gB Mt.vs ((vosL xs).take i.1)]) (fun i => xs.length - i.1) ⟨0, by omega⟩ (wk_gcl [0, 1, 9] (gcOk_of (by decide) (by simp [Vc.st, tb36, tb180])) (by simp [hra])) ?_
    rintro ⟨i, hi⟩
    by_cases hlt : i < xs.length
    · obtain ⟨x, hx⟩ := at_lt hlt
      obtain ⟨id, off, cap, cs, rfl, hcap, hc, hrow⟩ := ha.row hlt
      obtain ⟨r1, r2⟩ := hrow i x hx
      have hc2 := fun L => lowc_of hc L
      have vs_ov := fun g : Nat → Int => splice_all (xs := Mt.vs g) (ys := [.int .i64 0, .int .i64 0, .int .i64 0, .int .i64 0, .int .i64 0, .int .i64 0]) rfl
      have hid : ∀ ks top, mStd H.length ks top id = id := fun ks top => mStd_low (cells_lt hc)
      have wr := wrapS i (by omega)
      obtain ⟨hb, _⟩ := hR.ev i x hx
      have eP := eP_at hx
      have eM := eM_at hx
      have eK := eK_at hx
      rw [enc_def] at r1
      obtain ⟨p, k, m⟩ := x
      obtain ⟨b1, b2, b3, b4⟩ := hb
      simp only at b1 b2 b3 b4 eP eM eK r1
      obtain ⟨p, rfl⟩ := Int.eq_ofNat_of_zero_le b1
      obtain ⟨m, rfl⟩ := Int.eq_ofNat_of_zero_le b3
      rw [Int.toNat_natCast] at eP eM
      have hp6 : p < 6 := by omega
      have hm30 : m < 30 := by omega
      have c5 : (p : Int) < 6 := by omega
      have c6 : (m : Int) < 30 := by omega
      have c7 : p * 6 ≤ 30 := by omega
      have c8 : m * 6 ≤ 174 := by omega
      have c10 : min 6 (36 - p * 6) = 6 := by omega
      have c9 : p * 6 + p ≤ 35 := by omega
      obtain ⟨c, hc0⟩ : ∃ c, c = (Vc.st (Hi.eP xs) (Hi.eM xs) (Hi.eK xs) i).1 := ⟨_, rfl⟩
      obtain ⟨s, hs0⟩ : ∃ s, s = (Vc.st (Hi.eP xs) (Hi.eM xs) (Hi.eK xs) i).2 := ⟨_, rfl⟩
      have e1 : (Vc.st (Hi.eP xs) (Hi.eM xs) (Hi.eK xs) (i + 1)).1 = fun q => if q = p then Vc.vo (Hi.eP xs) (Hi.eM xs) (Hi.eK xs) i else c q := by
        funext q; rw [hc0]; simp only [Vc.st, Vc.vo, eP]
      have e2 : (Vc.st (Hi.eP xs) (Hi.eM xs) (Hi.eK xs) (i + 1)).2 = fun q => if k = 2 ∧ q = m then Vc.vo (Hi.eP xs) (Hi.eM xs) (Hi.eK xs) i else s q := by
        funext q; rw [hs0]; simp only [Vc.st, Vc.vo, eK, eM]
      have e3 : Vc.vo (Hi.eP xs) (Hi.eM xs) (Hi.eK xs) i = fun q => (if k = 3 then Vc.mx (c p q) (s m q) else c p q) + if q = p then 1 else 0 := by
        funext q; unfold Vc.vo Vc.vnew; rw [eP, eM, eK, ← hc0, ← hs0]
      have htk := take_snoc (vosL_at hlt)
      rw [← hc0, ← hs0]
      generalize Vc.vo (Hi.eP xs) (Hi.eM xs) (Hi.eK xs) i = V at *
      have t1 := tbC_row (n := 6) (c := c) hp6
      have t2 := tbC_row (n := 30) (c := s) hm30
      have hbd := Vc.st_bound (P := Hi.eP xs) (M := Hi.eM xs) (K := Hi.eK xs) i p p
      have hbs := Vc.st_bound (P := Hi.eP xs) (M := Hi.eM xs) (K := Hi.eK xs) i m p
      rw [← hc0, ← hs0] at hbd hbs
      have hVp : V p = (if k = 3 then Vc.mx (c p p) (s m p) else c p p) + 1 := by rw [e3]; simp
      have hll : ((vosL xs).take i).length = i := by rw [List.length_take, vosL_len]; omega
      have t3 := tbC_row (n := 6) (c := fun q => if q = p then V else c q) hp6
      simp only [if_true] at t3
      have t4 := tbC_splice (n := 30) (c := s) hm30 V
      obtain ⟨C2, hC2⟩ : ∃ C2, C2 = tbC 6 (fun q => if q = p then V else c q) := ⟨_, rfl⟩
      have hC2l : C2.length = 36 := by rw [hC2]; simp
      have hC2r : ∀ f : Nat → Nat, C2.map (renS f) = C2 := fun f => by rw [hC2]; simp
      rw [← hC2] at t3
      by_cases k3 : k = 3
      · obtain ⟨F, hF⟩ : ∃ F, (fun j => Vc.mx (c p j) (s m j)) = F := ⟨_, rfl⟩
        have hFp : F p = Vc.mx (c p p) (s m p) := by rw [← hF]
        have hFb : 0 ≤ F p ∧ F p ≤ i := by rw [hFp]; unfold Vc.mx; split <;> omega
        rw [if_pos k3, ← hFp] at hVp
        have t5 := tbC_splice (n := 6) (c := c) hp6 F
        have t6 := tbC_at (n := 6) (c := fun q => if q = p then F else c q) hp6 hp6
        simp only [if_true] at t6
        have t7 : (tbC 6 (fun q => if q = p then F else c q)).set (p * 6 + p) (.int .i64 (F p + 1)) = C2 := by
          have := tbC_set (n := 6) (c := fun q => if q = p then F else c q) hp6 hp6 (F p + 1)
          rw [hC2, this]
          refine tbC_ext fun r j _ hj => ?_
          by_cases er : r = p
          · subst er
            by_cases ej : j = r
            · subst ej; simp [hVp]
            · simp [ej, e3, ← hF, k3]
          · simp [er]
        generalize (fun q => if q = p then F else c q) = c1 at *
        have wF : IntKind.i64.wrap (F p + 1) = F p + 1 := wrap_in _ (by omega) (by omega)
        have k2 : ¬k = 2 := by omega
        rw [show (fun q => if k = 2 ∧ q = m then V else s q) = s by funext q; simp [k2]] at e2
        (repeat' (first | refine awp_seq ?_ | (refine awp_region tabOk ?_; simp [hlt, hc, hc2, r1, r2, c5, hp6, k3]) | (refine awp_if ?_; simp [hlt, hc, hc2, r1, r2, c5, hp6, k3]) | refine awp_block ?_ | refine And.intro ?_ ?_ | intro _ | (refine awp_skip ?_; simp [hlt, hc, hc2, r1, r2, c5, hp6, k3]) | (refine awp_ret ?_; simp [hlt, hc, hc2, r1, r2, c5, hp6, k3]) | (refine awp_exit ?_; simp [hlt, hc, hc2, r1, r2, c5, hp6, k3])))
        refine awp_draw tabOk mixed [] (by kernel_rfl) ?_
        simp [c5, c6, hp6, hm30, c7, c8, t1, t2]
        refine ⟨_, [], vectMax ⟨rfl, by simp⟩, ?_⟩
        simp [c7, hF, t5]
        (repeat' (first | refine awp_seq ?_ | (refine awp_region tabOk ?_; simp) | (refine awp_if ?_; simp) | refine awp_block ?_ | refine And.intro ?_ ?_ | intro _ | (refine awp_skip ?_; simp) | (refine awp_ret ?_; simp) | (refine awp_exit ?_; simp)))
        refine awp_draw tabOk mixed [] (by kernel_rfl) ?_
        simp [c5, hp6, t6, wF, c9, t7]
        cases hO : (vosL xs).take i with
        | nil =>
          rw [hO] at htk hll
          (repeat' (first | refine awp_seq ?_ | (refine awp_region tabOk ?_; simp [k3, c7, c10, t3, vs_ov, maxLen, wr, hC2l]) | (refine awp_if ?_; simp [k3, c7, c10, t3, vs_ov, maxLen, wr, hC2l]) | refine awp_block ?_ | refine And.intro ?_ ?_ | intro _ | (refine awp_skip ?_; simp [k3, c7, c10, t3, vs_ov, maxLen, wr, hC2l]) | (refine awp_ret ?_; simp [k3, c7, c10, t3, vs_ov, maxLen, wr, hC2l]) | (refine awp_exit ?_; simp [k3, c7, c10, t3, vs_ov, maxLen, wr, hC2l])))
          refine ⟨i + 1, by omega, by omega, ?_⟩
          rw [htk]
          exact wk_gcl [0, 1, 5] (gcOk_of (by decide) (by simp [gB, e1, e2, ← hC2, hC2r])) (by simp [hid, wr, ← hll])
        | cons o O =>
          rw [hO] at htk hll
          obtain ⟨OF, hOF, hgB, hOFl, hOFt, hOFr⟩ := gB_own vlen (fun f x => rfl) o O
          have hno : ¬O.length + 1 + 1 ≤ O.length + 1 := by omega
          have hll1 : O.length + 1 = i := by simpa using hll
          have hml : (O.length + 1 + 1) * 48 ≤ 140737488355328 := by omega
          have hml1 : O.length + 1 + 1 ≤ 9223372036854775807 := by omega
          (repeat' (first | refine awp_seq ?_ | (refine awp_region tabOk ?_; simp [k3, c7, c10, t3, vs_ov, maxLen, wr, hC2l, hgB, hno, hml, hml1, hOFl, hOFt]) | (refine awp_if ?_; simp [k3, c7, c10, t3, vs_ov, maxLen, wr, hC2l, hgB, hno, hml, hml1, hOFl, hOFt]) | refine awp_block ?_ | refine And.intro ?_ ?_ | intro _ | (refine awp_skip ?_; simp [k3, c7, c10, t3, vs_ov, maxLen, wr, hC2l, hgB, hno, hml, hml1, hOFl, hOFt]) | (refine awp_ret ?_; simp [k3, c7, c10, t3, vs_ov, maxLen, wr, hC2l, hgB, hno, hml, hml1, hOFl, hOFt]) | (refine awp_exit ?_; simp [k3, c7, c10, t3, vs_ov, maxLen, wr, hC2l, hgB, hno, hml, hml1, hOFl, hOFt])))
          refine ⟨i + 1, by omega, by omega, ?_⟩
          rw [htk, gB_snoc, gV_snoc, ← hOF]
          exact wk_gcl [0, 1, 5] (gcOk_of (by decide) (by simp [e1, e2, ← hC2, hC2r, hOFr])) (by simp [hid, wr, ← hll1])
      · rw [if_neg k3] at hVp
        have t6 := tbC_at (n := 6) (c := c) hp6 hp6
        have t7 : (tbC 6 c).set (p * 6 + p) (.int .i64 (c p p + 1)) = C2 := by
          have := tbC_set (n := 6) (c := c) hp6 hp6 (c p p + 1)
          rw [hC2, this]
          refine tbC_ext fun r j _ hj => ?_
          by_cases er : r = p
          · subst er
            by_cases ej : j = r
            · subst ej; simp [hVp]
            · simp [ej, e3, k3]
          · simp [er]
        have wF : IntKind.i64.wrap (c p p + 1) = c p p + 1 := wrap_in _ (by omega) (by omega)
        (repeat' (first | refine awp_seq ?_ | (refine awp_region tabOk ?_; simp [hlt, hc, hc2, r1, r2, c5, hp6, k3]) | (refine awp_if ?_; simp [hlt, hc, hc2, r1, r2, c5, hp6, k3]) | refine awp_block ?_ | refine And.intro ?_ ?_ | intro _ | (refine awp_skip ?_; simp [hlt, hc, hc2, r1, r2, c5, hp6, k3]) | (refine awp_ret ?_; simp [hlt, hc, hc2, r1, r2, c5, hp6, k3]) | (refine awp_exit ?_; simp [hlt, hc, hc2, r1, r2, c5, hp6, k3])))
        refine awp_draw tabOk mixed [] (by kernel_rfl) ?_
        simp [c5, hp6, t6, wF, c9, t7]
        by_cases k2 : k = 2
        · rw [show (fun q => if k = 2 ∧ q = m then V else s q) = fun q => if q = m then V else s q by funext q; simp [k2]] at e2
          cases hO : (vosL xs).take i with
          | nil =>
            rw [hO] at htk hll
            (repeat' (first | refine awp_seq ?_ | (refine awp_region tabOk ?_; simp [k2, c7, c10, t3, vs_ov, maxLen, wr, hC2l]) | (refine awp_if ?_; simp [k2, c7, c10, t3, vs_ov, maxLen, wr, hC2l]) | refine awp_block ?_ | refine And.intro ?_ ?_ | intro _ | (refine awp_skip ?_; simp [k2, c7, c10, t3, vs_ov, maxLen, wr, hC2l]) | (refine awp_ret ?_; simp [k2, c7, c10, t3, vs_ov, maxLen, wr, hC2l]) | (refine awp_exit ?_; simp [k2, c7, c10, t3, vs_ov, maxLen, wr, hC2l])))
            refine awp_draw tabOk mixed [] (by kernel_rfl) ?_
            simp [c6, hm30, c7, c8, c10, t3, t4, hC2l, vs_ov]
            (repeat' (first | refine awp_seq ?_ | (refine awp_region tabOk ?_; simp [c7, c10, t3, vs_ov, maxLen, wr, hC2l]) | (refine awp_if ?_; simp [c7, c10, t3, vs_ov, maxLen, wr, hC2l]) | refine awp_block ?_ | refine And.intro ?_ ?_ | intro _ | (refine awp_skip ?_; simp [c7, c10, t3, vs_ov, maxLen, wr, hC2l]) | (refine awp_ret ?_; simp [c7, c10, t3, vs_ov, maxLen, wr, hC2l]) | (refine awp_exit ?_; simp [c7, c10, t3, vs_ov, maxLen, wr, hC2l])))
            refine ⟨i + 1, by omega, by omega, ?_⟩
            rw [htk]
            exact wk_gcl [0, 1, 5] (gcOk_of (by decide) (by simp [gB, e1, e2, ← hC2, hC2r])) (by simp [hid, wr, ← hll])
          | cons o O =>
            rw [hO] at htk hll
            obtain ⟨OF, hOF, hgB, hOFl, hOFt, hOFr⟩ := gB_own vlen (fun f x => rfl) o O
            have hno : ¬O.length + 1 + 1 ≤ O.length + 1 := by omega
            have hll1 : O.length + 1 = i := by simpa using hll
            have hml : (O.length + 1 + 1) * 48 ≤ 140737488355328 := by omega
            have hml1 : O.length + 1 + 1 ≤ 9223372036854775807 := by omega
            (repeat' (first | refine awp_seq ?_ | (refine awp_region tabOk ?_; simp [k2, c7, c10, t3, vs_ov, maxLen, wr, hC2l, hgB, hno, hml, hml1, hOFl, hOFt]) | (refine awp_if ?_; simp [k2, c7, c10, t3, vs_ov, maxLen, wr, hC2l, hgB, hno, hml, hml1, hOFl, hOFt]) | refine awp_block ?_ | refine And.intro ?_ ?_ | intro _ | (refine awp_skip ?_; simp [k2, c7, c10, t3, vs_ov, maxLen, wr, hC2l, hgB, hno, hml, hml1, hOFl, hOFt]) | (refine awp_ret ?_; simp [k2, c7, c10, t3, vs_ov, maxLen, wr, hC2l, hgB, hno, hml, hml1, hOFl, hOFt]) | (refine awp_exit ?_; simp [k2, c7, c10, t3, vs_ov, maxLen, wr, hC2l, hgB, hno, hml, hml1, hOFl, hOFt])))
            refine awp_draw tabOk mixed [] (by kernel_rfl) ?_
            simp [c6, hm30, c7, c8, c10, t3, t4, hC2l, vs_ov]
            (repeat' (first | refine awp_seq ?_ | (refine awp_region tabOk ?_; simp [c7, c10, t3, vs_ov, maxLen, wr, hC2l, hgB, hno, hml, hml1, hOFl, hOFt]) | (refine awp_if ?_; simp [c7, c10, t3, vs_ov, maxLen, wr, hC2l, hgB, hno, hml, hml1, hOFl, hOFt]) | refine awp_block ?_ | refine And.intro ?_ ?_ | intro _ | (refine awp_skip ?_; simp [c7, c10, t3, vs_ov, maxLen, wr, hC2l, hgB, hno, hml, hml1, hOFl, hOFt]) | (refine awp_ret ?_; simp [c7, c10, t3, vs_ov, maxLen, wr, hC2l, hgB, hno, hml, hml1, hOFl, hOFt]) | (refine awp_exit ?_; simp [c7, c10, t3, vs_ov, maxLen, wr, hC2l, hgB, hno, hml, hml1, hOFl, hOFt])))
            refine ⟨i + 1, by omega, by omega, ?_⟩
            rw [htk, gB_snoc, gV_snoc, ← hOF]
            exact wk_gcl [0, 1, 5] (gcOk_of (by decide) (by simp [e1, e2, ← hC2, hC2r, hOFr])) (by simp [hid, wr, ← hll1])
        · rw [show (fun q => if k = 2 ∧ q = m then V else s q) = s by funext q; simp [k2]] at e2
          cases hO : (vosL xs).take i with
          | nil =>
            rw [hO] at htk hll
            (repeat' (first | refine awp_seq ?_ | (refine awp_region tabOk ?_; simp [k2, c7, c10, t3, vs_ov, maxLen, wr, hC2l]) | (refine awp_if ?_; simp [k2, c7, c10, t3, vs_ov, maxLen, wr, hC2l]) | refine awp_block ?_ | refine And.intro ?_ ?_ | intro _ | (refine awp_skip ?_; simp [k2, c7, c10, t3, vs_ov, maxLen, wr, hC2l]) | (refine awp_ret ?_; simp [k2, c7, c10, t3, vs_ov, maxLen, wr, hC2l]) | (refine awp_exit ?_; simp [k2, c7, c10, t3, vs_ov, maxLen, wr, hC2l])))
            refine ⟨i + 1, by omega, by omega, ?_⟩
            rw [htk]
            exact wk_gcl [0, 1, 5] (gcOk_of (by decide) (by simp [gB, e1, e2, ← hC2, hC2r])) (by simp [hid, wr, ← hll])
          | cons o O =>
            rw [hO] at htk hll
            obtain ⟨OF, hOF, hgB, hOFl, hOFt, hOFr⟩ := gB_own vlen (fun f x => rfl) o O
            have hno : ¬O.length + 1 + 1 ≤ O.length + 1 := by omega
            have hll1 : O.length + 1 = i := by simpa using hll
            have hml : (O.length + 1 + 1) * 48 ≤ 140737488355328 := by omega
            have hml1 : O.length + 1 + 1 ≤ 9223372036854775807 := by omega
            (repeat' (first | refine awp_seq ?_ | (refine awp_region tabOk ?_; simp [k2, c7, c10, t3, vs_ov, maxLen, wr, hC2l, hgB, hno, hml, hml1, hOFl, hOFt]) | (refine awp_if ?_; simp [k2, c7, c10, t3, vs_ov, maxLen, wr, hC2l, hgB, hno, hml, hml1, hOFl, hOFt]) | refine awp_block ?_ | refine And.intro ?_ ?_ | intro _ | (refine awp_skip ?_; simp [k2, c7, c10, t3, vs_ov, maxLen, wr, hC2l, hgB, hno, hml, hml1, hOFl, hOFt]) | (refine awp_ret ?_; simp [k2, c7, c10, t3, vs_ov, maxLen, wr, hC2l, hgB, hno, hml, hml1, hOFl, hOFt]) | (refine awp_exit ?_; simp [k2, c7, c10, t3, vs_ov, maxLen, wr, hC2l, hgB, hno, hml, hml1, hOFl, hOFt])))
            refine ⟨i + 1, by omega, by omega, ?_⟩
            rw [htk, gB_snoc, gV_snoc, ← hOF]
            exact wk_gcl [0, 1, 5] (gcOk_of (by decide) (by simp [e1, e2, ← hC2, hC2r, hOFr])) (by simp [hid, wr, ← hll1])
    · obtain rfl : i = xs.length := by omega
      have htl : (vosL xs).take xs.length = vosL xs := List.take_of_length_le (by simp)
      have hrg := fun m : Nat → Nat => ren_gB (m := m) (enc := Mt.vs) (fun x => rfl) (vosL xs)
      rw [htl]
      (repeat' (first | refine awp_seq ?_ | (refine awp_region tabOk ?_; simp [hlt]) | (refine awp_if ?_; simp [hlt]) | refine awp_block ?_ | refine And.intro ?_ ?_ | intro _ | (refine awp_skip ?_; simp [hlt]) | (refine awp_ret ?_; simp [hlt]) | (refine awp_exit ?_; simp [hlt])))
      exact ⟨H ++ [gB Mt.vs (vosL xs)], .tup [.sc (gV 6 H.length (vosL xs)), .sc (.int .i64 0)], gcTo_std [2] (gcOk_of (by decide) (by simp [hrg])) (by simp), q⟩
  · ((try simp [he]); (repeat' (first | refine awp_seq ?_ | (refine awp_region tabOk ?_; simp [he]) | (refine awp_if ?_; simp [he]) | refine awp_block ?_ | refine And.intro ?_ ?_ | intro _ | (refine awp_skip ?_; simp [he]) | (refine awp_ret ?_; simp [he]) | (refine awp_exit ?_; simp [he]))))
    exact ⟨H, _, GcTo.refl (Nat.le_refl _), q0 he⟩
theorem vectVectors {H : List Blk} {a : Sc} {xs : List Ev} {Q : AV → List Blk → Prop} (ha : ESl H a xs) (q0 : ¬hErr xs = 0 → Q (.tup [.sc .nils, .sc (.int .i64 (hErr xs))]) H)
    (q1 : hErr xs = 0 → ∀ b L, VSl (H ++ L) b (vosL xs) → Q (.tup [.sc b, .sc (.int .i64 0)]) (H ++ L)) :
    ACalls Try.prog 20 [.sc a] H Q := vectVectorsX ha q0 fun he => q1 he _ _ (GSl.own vlen (by simp))
end Go.Proofs.Ytjjhogleiolngaa
