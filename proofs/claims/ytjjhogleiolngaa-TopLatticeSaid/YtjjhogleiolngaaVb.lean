/- Histories: stamp.Check, partref.HistoryErr. -/
import Derived.Test.YtjjhogleiolngaaVa
import Derived.Test.YtjjhogleiolngaaM1
namespace Go.Proofs.Ytjjhogleiolngaa
set_option linter.unusedSimpArgs false
set_option linter.unusedVariables false
open Go.RowKit
attribute [local irreducible] AWP ACalls Wk GcTo
attribute [local simp] tab3 ti3 tab4 ti4 tab24 ti24 tab29 ti29 tab135 ti135 tab154 ti154 tab160 ti160 tab159 ti159
open Hi
theorem Ev.at0 (x : Ev) : x.enc[0]? = some (.int .i64 x.p) := rfl
theorem enc_get0 (x : Ev) (h : 0 < x.enc.length) : x.enc[0] = .int .i64 x.p := rfl
theorem enc_get1 (x : Ev) (h : 1 < x.enc.length) : x.enc[1] = .int .i64 x.k := rfl
theorem enc_get2 (x : Ev) (h : 2 < x.enc.length) : x.enc[2] = .int .i64 x.m := rfl
theorem enc_all (x : Ev) : x.enc.take 3 = x.enc := rfl
theorem enc_ren (m : Nat → Nat) (x : Ev) : x.enc.map (renS m) = x.enc := rfl
theorem enc_ov (x : Ev) (a b c : Sc) : splice 0 x.enc [a, b, c] = x.enc := rfl
theorem enc_def (x : Ev) : x.enc = [.int .i64 x.p, .int .i64 x.k, .int .i64 x.m] := rfl
/-- What Check keeps: of each message who sent it, and 1; who took it. -/
def byF (l : List Ev) (m : Nat) : Int := sentBy l m + 1
def tkF (l : List Ev) (q : Nat) : Bool := decide (⟨(q % 6 : Nat), 3, (q / 6 : Nat)⟩ ∈ l)
theorem byF_nil : byF [] = fun _ => 0 := rfl
theorem tkF_nil : tkF [] = fun _ => false := by funext q; simp [tkF]
theorem byF_other {l : List Ev} {x : Ev} (h : ¬x.k = 2) : byF (l ++ [x]) = byF l := by
  funext m; unfold byF; rw [sentBy_snoc, if_neg (fun e => h e.1)]
theorem byF_send {l : List Ev} {x : Ev} (h : x.k = 2) {m : Nat} (hm : x.m = m) : byF (l ++ [x]) = fun j => if j = m then x.p + 1 else byF l j := by
  funext j; unfold byF; rw [sentBy_snoc]
  by_cases e : j = m
  · subst e; rw [if_pos ⟨h, hm⟩, if_pos rfl]
  · rw [if_neg (fun e' => e (by omega)), if_neg e]
theorem tkF_other {l : List Ev} {x : Ev} (h : ¬x.k = 3) : tkF (l ++ [x]) = tkF l := by
  funext q; unfold tkF
  rw [decide_eq_decide]
  simp only [List.mem_append, List.mem_singleton]
  constructor
  · rintro (h' | h')
    · exact h'
    · exact absurd (by rw [← h']) h
  · exact .inl
theorem tkF_take {l : List Ev} {x : Ev} (h : x.k = 3) {m p : Nat} (hm : x.m = m) (hp : x.p = p) (h6 : p < 6) : tkF (l ++ [x]) = fun j => if j = m * 6 + p then true else tkF l j := by
  funext q; unfold tkF
  by_cases e : q = m * 6 + p
  · subst e
    rw [if_pos rfl, decide_eq_true_eq]
    refine List.mem_append.2 (.inr (List.mem_singleton.2 ?_))
    cases x; simp only at h hm hp; subst h hm hp; congr 1
    · omega
    · omega
  · rw [if_neg e, decide_eq_decide]
    simp only [List.mem_append, List.mem_singleton]
    constructor
    · rintro (h' | h')
      · exact h'
      · rw [← h'] at hm hp
        simp only at hm hp
        omega
    · exact .inl
theorem tkF_at {l : List Ev} {x : Ev} (h : x.k = 3) {m p : Nat} (hm : x.m = m) (hp : x.p = p) (h6 : p < 6) : tkF l (m * 6 + p) = decide (x ∈ l) := by
  unfold tkF
  have : (⟨((m * 6 + p) % 6 : Nat), 3, ((m * 6 + p) / 6 : Nat)⟩ : Ev) = x := by
    cases x; simp only at h hm hp; subst h hm hp; congr 1
    · omega
    · omega
  rw [this]
theorem ESl.row {H : List Blk} {a : Sc} {xs : List Ev} (h : ESl H a xs) {i : Nat} (hi : i < xs.length) : ∃ id off cap cs, a = .sl id off 3 xs.length cap ∧ xs.length ≤ cap ∧ Blk.cells? H[id]? = some cs ∧
    ∀ (i : Nat) (x : Ev), xs[i]? = some x → (cs.drop (off + i * 3)).take 3 = x.enc ∧ off + i * 3 + 3 ≤ cs.length := GSl.at elen h hi
set_option maxRecDepth 100000 in
set_option maxHeartbeats 1000000 in
theorem stampCheck {H : List Blk} {a : Sc} {xs : List Ev} {Q : AV → List Blk → Prop} (ha : ESl H a xs) (q : Q (.c (.sc (.int .i64 (hErr xs)))) H) :
    ACalls Try.prog 54 [.sc a] H Q := by
  refine acalls_of tabOk Try.func54 (by kernel_rfl) rfl (by kernel_rfl) ?_
  have la := ha.len (i := ti24) (e := 135) rfl
  have hra := ha.ren
  have hcL := ha.app
  simp only [ti24] at la
  by_cases hn : 60 < xs.length
  · have hn' : (60 : Int) < xs.length := by omega
    have e : hErr xs = 2 := if_pos hn
    rw [e] at q
    (repeat' (first | refine awp_seq ?_ | (refine awp_region tabOk ?_; simp [-lenC, la, hn']) | (refine awp_if ?_; simp [-lenC, la, hn']) | refine awp_block ?_ | refine And.intro ?_ ?_ | intro _ | (refine awp_skip ?_; simp [-lenC, la, hn']) | (refine awp_ret ?_; simp [-lenC, la, hn']) | (refine awp_exit ?_; simp [-lenC, la, hn'])))
    exact ⟨H, _, GcTo.refl (Nat.le_refl _), q⟩
  · have hn' : ¬(60 : Int) < xs.length := by omega
    have e : hErr xs = scanE xs xs.length 0 := if_neg hn
    (repeat' (first | refine awp_seq ?_ | (refine awp_region tabOk ?_; simp [-lenC, la, hn']) | (refine awp_if ?_; simp [-lenC, la, hn']) | refine awp_block ?_ | refine And.intro ?_ ?_ | intro _ | (refine awp_skip ?_; simp [-lenC, la, hn']) | (refine awp_ret ?_; simp [-lenC, la, hn']) | (refine awp_exit ?_; simp [-lenC, la, hn'])))
    refine awp_loop_at (α := {i : Nat // i ≤ xs.length ∧ hErr xs = scanE xs (xs.length - i) i ∧ ∀ y ∈ xs.take i, inB y}) (fun i => [(3, .c (.sc (.ptr H.length 0))), (4, .c (.sc (.ptr (H.length + 1) 0))), (10, .c (.sc a)), (11, .c (.sc (.int .i64 xs.length))), (12, .c (.sc (.int .i64 i.1)))])
      (fun i => H ++ [.own (fnC 30 (byF (xs.take i.1))), .own (fnB 180 (tkF (xs.take i.1)))]) (fun i => xs.length - i.1) ⟨0, by omega, e, by simp⟩ (wk_tl (by simp)) ?_
    rintro ⟨i, hi, he, hb⟩
    by_cases hlt : i < xs.length
    · obtain ⟨x, hx⟩ := at_lt hlt
      rw [scanE_step hx] at he
      obtain ⟨id, off, cap, cs, rfl, hcap, hc, hrow⟩ := ha.row hlt
      obtain ⟨r1, r2⟩ := hrow i x hx
      have hc2 := fun L => lowc_of hc L
      have wr := wrapS i (by omega)
      have htk := take_snoc hx
      have hbb : ∀ y ∈ xs.take (i + 1), inB x → inB y := fun y hy hbx => by
        rw [htk] at hy
        rcases List.mem_append.1 hy with h | h
        · exact hb y h
        · simp at h; subst h; exact hbx
      by_cases hbx : inB x
      · obtain ⟨p, k, m⟩ := x
        obtain ⟨b1, b2, b3, b4⟩ := hbx
        simp only at b1 b2 b3 b4
        obtain ⟨p, rfl⟩ := Int.eq_ofNat_of_zero_le b1
        obtain ⟨m, rfl⟩ := Int.eq_ofNat_of_zero_le b3
        have hp6 : p < 6 := by omega
        have hm30 : m < 30 := by omega
        have c1 : ¬(p : Int) < 0 := by omega
        have c2 : ¬(6 : Int) ≤ p := by omega
        have c3 : ¬(m : Int) < 0 := by omega
        have c4 : ¬(30 : Int) ≤ m := by omega
        have c5 : (p : Int) < 6 := by omega
        have c6 : (m : Int) < 30 := by omega
        have s1 := fnC_at (byF (xs.take i)) hm30
        have s2 := fnB_at (n := 180) (tkF (xs.take i)) (i := m * 6 + p) (by omega)
        have hsg := sentBy_ge hb m
        have hee : evE (xs.take i) ⟨p, k, m⟩ = if okEv (xs.take i) ⟨p, k, m⟩ then 0 else 4 := if_pos ⟨b1, b2, b3, b4⟩
        have wp : IntKind.i64.wrap ((p : Int) + 1) = (p : Int) + 1 := wrap_in _ (by omega) (by omega)
        have hm29 : m ≤ 29 := by omega
        have hpm : m * 6 + p ≤ 179 := by omega
        rw [enc_def] at r1
        simp only at r1
        by_cases k1 : k = 1
        · subst k1
          by_cases m0 : m = 0
          · subst m0
            have hok : okEv (xs.take i) ⟨p, 1, (0 : Nat)⟩ := .inl ⟨rfl, rfl⟩
            rw [hee, if_pos hok, if_pos rfl] at he
            (repeat' (first | refine awp_seq ?_ | (refine awp_region tabOk ?_; simp [hlt, hc2, r1, r2, c1, c2, wr]) | (refine awp_if ?_; simp [hlt, hc2, r1, r2, c1, c2, wr]) | refine awp_block ?_ | refine And.intro ?_ ?_ | intro _ | (refine awp_skip ?_; simp [hlt, hc2, r1, r2, c1, c2, wr]) | (refine awp_ret ?_; simp [hlt, hc2, r1, r2, c1, c2, wr]) | (refine awp_exit ?_; simp [hlt, hc2, r1, r2, c1, c2, wr])))
            refine ⟨i + 1, by omega, ⟨by omega, he, fun y hy => hbb y hy ⟨b1, b2, b3, b4⟩⟩, ?_⟩
            rw [htk, byF_other (by simp), tkF_other (by simp)]
            exact wk_gcl [0, 1] (gcOk_of (by decide) (by simp)) (by simp [hra])
          · have hok : ¬okEv (xs.take i) ⟨p, 1, (m : Nat)⟩ := by unfold okEv; simp; omega
            rw [hee, if_neg hok, if_neg (by decide)] at he
            have m0' : ¬(m : Int) = 0 := by omega
            (repeat' (first | refine awp_seq ?_ | (refine awp_region tabOk ?_; simp [hlt, hc2, r1, r2, c1, c2, c3, c4, m0', m0]) | (refine awp_if ?_; simp [hlt, hc2, r1, r2, c1, c2, c3, c4, m0', m0]) | refine awp_block ?_ | refine And.intro ?_ ?_ | intro _ | (refine awp_skip ?_; simp [hlt, hc2, r1, r2, c1, c2, c3, c4, m0', m0]) | (refine awp_ret ?_; simp [hlt, hc2, r1, r2, c1, c2, c3, c4, m0', m0]) | (refine awp_exit ?_; simp [hlt, hc2, r1, r2, c1, c2, c3, c4, m0', m0])))
            exact ⟨H, _, gcTo_none (fun _ => rfl), he ▸ q⟩
        · by_cases k2 : k = 2
          · subst k2
            by_cases hs : byF (xs.take i) m = 0
            · have hok : okEv (xs.take i) ⟨p, 2, (m : Nat)⟩ := .inr (.inl ⟨rfl, by have h : sentBy (xs.take i) (m : Int) + 1 = 0 := hs; show sentBy (xs.take i) (m : Int) < 0; omega⟩)
              rw [hee, if_pos hok, if_pos rfl] at he
              have st := fnC_set (n := 30) (byF (xs.take i)) hm30 ((p : Int) + 1)
              (repeat' (first | refine awp_seq ?_ | (refine awp_region tabOk ?_; simp [hlt, hc2, r1, r2, c1, c2, c3, c4, c6, s1, hm30, hs, wp, wr, hm29, st]) | (refine awp_if ?_; simp [hlt, hc2, r1, r2, c1, c2, c3, c4, c6, s1, hm30, hs, wp, wr, hm29, st]) | refine awp_block ?_ | refine And.intro ?_ ?_ | intro _ | (refine awp_skip ?_; simp [hlt, hc2, r1, r2, c1, c2, c3, c4, c6, s1, hm30, hs, wp, wr, hm29, st]) | (refine awp_ret ?_; simp [hlt, hc2, r1, r2, c1, c2, c3, c4, c6, s1, hm30, hs, wp, wr, hm29, st]) | (refine awp_exit ?_; simp [hlt, hc2, r1, r2, c1, c2, c3, c4, c6, s1, hm30, hs, wp, wr, hm29, st])))
              refine ⟨i + 1, by omega, ⟨by omega, he, fun y hy => hbb y hy ⟨b1, b2, b3, b4⟩⟩, ?_⟩
              rw [htk, byF_send rfl (m := m) rfl, tkF_other (by simp)]
              exact wk_gcl [0, 1] (gcOk_of (by decide) (by simp)) (by simp [hra])
            · have hok : ¬okEv (xs.take i) ⟨p, 2, (m : Nat)⟩ := by unfold okEv; unfold byF at hs; simp; omega
              rw [hee, if_neg hok, if_neg (by decide)] at he
              (repeat' (first | refine awp_seq ?_ | (refine awp_region tabOk ?_; simp [hlt, hc2, r1, r2, c1, c2, c3, c4, c6, s1, hm30, hs]) | (refine awp_if ?_; simp [hlt, hc2, r1, r2, c1, c2, c3, c4, c6, s1, hm30, hs]) | refine awp_block ?_ | refine And.intro ?_ ?_ | intro _ | (refine awp_skip ?_; simp [hlt, hc2, r1, r2, c1, c2, c3, c4, c6, s1, hm30, hs]) | (refine awp_ret ?_; simp [hlt, hc2, r1, r2, c1, c2, c3, c4, c6, s1, hm30, hs]) | (refine awp_exit ?_; simp [hlt, hc2, r1, r2, c1, c2, c3, c4, c6, s1, hm30, hs])))
              exact ⟨H, _, gcTo_none (fun _ => rfl), he ▸ q⟩
          · by_cases k3 : k = 3
            · subst k3
              have e3 := tkF_at (l := xs.take i) (x := ⟨p, 3, m⟩) rfl (m := m) (p := p) rfl rfl hp6
              by_cases hok : okEv (xs.take i) ⟨p, 3, (m : Nat)⟩
              · rw [hee, if_pos hok, if_pos rfl] at he
                have hok' : 0 ≤ sentBy (xs.take i) m ∧ ¬sentBy (xs.take i) m = p ∧ ⟨p, 3, m⟩ ∉ xs.take i := by
                  rcases hok with ⟨h, _⟩ | ⟨h, _⟩ | ⟨_, h⟩
                  · cases h
                  · cases h
                  · exact h
                have d1 : ¬byF (xs.take i) m = 0 := by unfold byF; omega
                have d2 : ¬byF (xs.take i) m = (p : Int) + 1 := by unfold byF; omega
                have d3 : tkF (xs.take i) (m * 6 + p) = false := by rw [e3]; exact decide_eq_false hok'.2.2
                have st := fnB_set (n := 180) (tkF (xs.take i)) (i := m * 6 + p) (by omega) true
                (repeat' (first | refine awp_seq ?_ | (refine awp_region tabOk ?_; simp [hlt, hc2, r1, r2, c1, c2, c3, c4]) | (refine awp_if ?_; simp [hlt, hc2, r1, r2, c1, c2, c3, c4]) | refine awp_block ?_ | refine And.intro ?_ ?_ | intro _ | (refine awp_skip ?_; simp [hlt, hc2, r1, r2, c1, c2, c3, c4]) | (refine awp_ret ?_; simp [hlt, hc2, r1, r2, c1, c2, c3, c4]) | (refine awp_exit ?_; simp [hlt, hc2, r1, r2, c1, c2, c3, c4])))
                refine awp_draw tabOk mixed [] (by kernel_rfl) ?_
                simp [c5, c6, s1, s2, hm30, hp6, d1, d2, d3, wp]
                (repeat' (first | refine awp_seq ?_ | (refine awp_region tabOk ?_; simp) | (refine awp_if ?_; simp) | refine awp_block ?_ | refine And.intro ?_ ?_ | intro _ | (refine awp_skip ?_; simp) | (refine awp_ret ?_; simp) | (refine awp_exit ?_; simp)))
                refine awp_draw tabOk mixed [] (by kernel_rfl) ?_
                simp [c5, c6, hm30, hp6, hpm, st]
                (repeat' (first | refine awp_seq ?_ | (refine awp_region tabOk ?_; simp [wr]) | (refine awp_if ?_; simp [wr]) | refine awp_block ?_ | refine And.intro ?_ ?_ | intro _ | (refine awp_skip ?_; simp [wr]) | (refine awp_ret ?_; simp [wr]) | (refine awp_exit ?_; simp [wr])))
                refine ⟨i + 1, by omega, ⟨by omega, he, fun y hy => hbb y hy ⟨b1, b2, b3, b4⟩⟩, ?_⟩
                rw [htk, byF_other (by simp), tkF_take rfl (m := m) (p := p) rfl rfl hp6]
                exact wk_gcl [0, 1] (gcOk_of (by decide) (by simp)) (by simp [hra])
              · rw [hee, if_neg hok, if_neg (by decide)] at he
                have bad : byF (xs.take i) m = 0 ∨ (¬byF (xs.take i) m = 0 ∧ byF (xs.take i) m = (p : Int) + 1) ∨ (¬byF (xs.take i) m = 0 ∧ ¬byF (xs.take i) m = (p : Int) + 1 ∧ tkF (xs.take i) (m * 6 + p) = true) := by
                  rw [e3]; unfold byF; unfold okEv at hok; simp at hok
                  by_cases f1 : sentBy (xs.take i) m + 1 = 0
                  · exact .inl f1
                  · by_cases f2 : sentBy (xs.take i) m + 1 = (p : Int) + 1
                    · exact .inr (.inl ⟨f1, f2⟩)
                    · exact .inr (.inr ⟨f1, f2, decide_eq_true (hok (by omega) (by omega))⟩)
                (repeat' (first | refine awp_seq ?_ | (refine awp_region tabOk ?_; simp [hlt, hc2, r1, r2, c1, c2, c3, c4]) | (refine awp_if ?_; simp [hlt, hc2, r1, r2, c1, c2, c3, c4]) | refine awp_block ?_ | refine And.intro ?_ ?_ | intro _ | (refine awp_skip ?_; simp [hlt, hc2, r1, r2, c1, c2, c3, c4]) | (refine awp_ret ?_; simp [hlt, hc2, r1, r2, c1, c2, c3, c4]) | (refine awp_exit ?_; simp [hlt, hc2, r1, r2, c1, c2, c3, c4])))
                refine awp_draw tabOk mixed [] (by kernel_rfl) ?_
                rcases bad with d1 | ⟨d1, d2⟩ | ⟨d1, d2, d3⟩
                · simp [c5, c6, s1, s2, hm30, hp6, d1, wp]
                  (repeat' (first | refine awp_seq ?_ | (refine awp_region tabOk ?_; simp) | (refine awp_if ?_; simp) | refine awp_block ?_ | refine And.intro ?_ ?_ | intro _ | (refine awp_skip ?_; simp) | (refine awp_ret ?_; simp) | (refine awp_exit ?_; simp)))
                  exact ⟨H, _, gcTo_none (fun _ => rfl), he ▸ q⟩
                · have d2' : ¬(p : Int) + 1 = 0 := by omega
                  simp [c5, c6, s1, s2, hm30, hp6, d2', d2, wp]
                  (repeat' (first | refine awp_seq ?_ | (refine awp_region tabOk ?_; simp) | (refine awp_if ?_; simp) | refine awp_block ?_ | refine And.intro ?_ ?_ | intro _ | (refine awp_skip ?_; simp) | (refine awp_ret ?_; simp) | (refine awp_exit ?_; simp)))
                  exact ⟨H, _, gcTo_none (fun _ => rfl), he ▸ q⟩
                · simp [c5, c6, s1, s2, hm30, hp6, d1, d2, d3, wp]
                  (repeat' (first | refine awp_seq ?_ | (refine awp_region tabOk ?_; simp) | (refine awp_if ?_; simp) | refine awp_block ?_ | refine And.intro ?_ ?_ | intro _ | (refine awp_skip ?_; simp) | (refine awp_ret ?_; simp) | (refine awp_exit ?_; simp)))
                  exact ⟨H, _, gcTo_none (fun _ => rfl), he ▸ q⟩
            · have hok : ¬okEv (xs.take i) ⟨p, k, (m : Nat)⟩ := by unfold okEv; simp [k1, k2, k3]
              rw [hee, if_neg hok, if_neg (by decide)] at he
              (repeat' (first | refine awp_seq ?_ | (refine awp_region tabOk ?_; simp [hlt, hc2, r1, r2, c1, c2, c3, c4, k1, k2, k3]) | (refine awp_if ?_; simp [hlt, hc2, r1, r2, c1, c2, c3, c4, k1, k2, k3]) | refine awp_block ?_ | refine And.intro ?_ ?_ | intro _ | (refine awp_skip ?_; simp [hlt, hc2, r1, r2, c1, c2, c3, c4, k1, k2, k3]) | (refine awp_ret ?_; simp [hlt, hc2, r1, r2, c1, c2, c3, c4, k1, k2, k3]) | (refine awp_exit ?_; simp [hlt, hc2, r1, r2, c1, c2, c3, c4, k1, k2, k3])))
              exact ⟨H, _, gcTo_none (fun _ => rfl), he ▸ q⟩
      · have hee : evE (xs.take i) x = 1 := if_neg hbx
        rw [hee, if_neg (by decide)] at he
        rw [enc_def] at r1
        have bad : x.p < 0 ∨ (¬x.p < 0 ∧ 6 ≤ x.p) ∨ (¬x.p < 0 ∧ ¬6 ≤ x.p ∧ x.m < 0) ∨ (¬x.p < 0 ∧ ¬6 ≤ x.p ∧ ¬x.m < 0 ∧ 30 ≤ x.m) := by unfold inB at hbx; omega
        rcases bad with h1 | ⟨h1, h2⟩ | ⟨h1, h2, h3⟩ | ⟨h1, h2, h3, h4⟩
        · (repeat' (first | refine awp_seq ?_ | (refine awp_region tabOk ?_; simp [hlt, hc2, r1, r2, h1]) | (refine awp_if ?_; simp [hlt, hc2, r1, r2, h1]) | refine awp_block ?_ | refine And.intro ?_ ?_ | intro _ | (refine awp_skip ?_; simp [hlt, hc2, r1, r2, h1]) | (refine awp_ret ?_; simp [hlt, hc2, r1, r2, h1]) | (refine awp_exit ?_; simp [hlt, hc2, r1, r2, h1])))
          exact ⟨H, _, gcTo_none (fun _ => rfl), he ▸ q⟩
        · (repeat' (first | refine awp_seq ?_ | (refine awp_region tabOk ?_; simp [hlt, hc2, r1, r2, h1, h2]) | (refine awp_if ?_; simp [hlt, hc2, r1, r2, h1, h2]) | refine awp_block ?_ | refine And.intro ?_ ?_ | intro _ | (refine awp_skip ?_; simp [hlt, hc2, r1, r2, h1, h2]) | (refine awp_ret ?_; simp [hlt, hc2, r1, r2, h1, h2]) | (refine awp_exit ?_; simp [hlt, hc2, r1, r2, h1, h2])))
          exact ⟨H, _, gcTo_none (fun _ => rfl), he ▸ q⟩
        · (repeat' (first | refine awp_seq ?_ | (refine awp_region tabOk ?_; simp [hlt, hc2, r1, r2, h1, h2, h3]) | (refine awp_if ?_; simp [hlt, hc2, r1, r2, h1, h2, h3]) | refine awp_block ?_ | refine And.intro ?_ ?_ | intro _ | (refine awp_skip ?_; simp [hlt, hc2, r1, r2, h1, h2, h3]) | (refine awp_ret ?_; simp [hlt, hc2, r1, r2, h1, h2, h3]) | (refine awp_exit ?_; simp [hlt, hc2, r1, r2, h1, h2, h3])))
          exact ⟨H, _, gcTo_none (fun _ => rfl), he ▸ q⟩
        · (repeat' (first | refine awp_seq ?_ | (refine awp_region tabOk ?_; simp [hlt, hc2, r1, r2, h1, h2, h3, h4]) | (refine awp_if ?_; simp [hlt, hc2, r1, r2, h1, h2, h3, h4]) | refine awp_block ?_ | refine And.intro ?_ ?_ | intro _ | (refine awp_skip ?_; simp [hlt, hc2, r1, r2, h1, h2, h3, h4]) | (refine awp_ret ?_; simp [hlt, hc2, r1, r2, h1, h2, h3, h4]) | (refine awp_exit ?_; simp [hlt, hc2, r1, r2, h1, h2, h3, h4])))
          exact ⟨H, _, gcTo_none (fun _ => rfl), he ▸ q⟩
    · obtain rfl : i = xs.length := by omega
      have : hErr xs = 0 := by rw [he, Nat.sub_self]; rfl
      (repeat' (first | refine awp_seq ?_ | (refine awp_region tabOk ?_; simp [hlt]) | (refine awp_if ?_; simp [hlt]) | refine awp_block ?_ | refine And.intro ?_ ?_ | intro _ | (refine awp_skip ?_; simp [hlt]) | (refine awp_ret ?_; simp [hlt]) | (refine awp_exit ?_; simp [hlt])))
      exact ⟨H, _, gcTo_none (fun _ => rfl), this ▸ q⟩
end Go.Proofs.Ytjjhogleiolngaa
