/- CausalSays: partref.SameCausal, causal.Cast. -/
import Derived.Test.YtdeockoaalpcjaaCe
namespace Go.Proofs.Ytdeockoaalpcjaa
set_option linter.unusedSimpArgs false
set_option linter.unusedVariables false
open Go.RowKit
attribute [local irreducible] AWP ACalls Wk GcTo
attribute [local simp] tab3 ti3 tab4 ti4 tab38 ti38 tab86 ti86 tab88 ti88 tab84 ti84 tab24 ti24 tab9 ti9 tab22 ti22
theorem vs_eq (f : Nat → Int) : eqSs (Mt.vs f) (Mt.vs f) = true := by simp [Mt.vs, eqSs, eqS]
theorem vs_ok (f : Nat → Int) : okSs [.int .i64, .int .i64, .int .i64, .int .i64, .int .i64, .int .i64] (Mt.vs f) = true := rfl
set_option maxRecDepth 100000 in
theorem sameCausal {H : List Blk} {me : Int} {seen : Nat → Int} {a b : Sc} {xs : List Ma} {Q : AV → List Blk → Prop} (ha : MSl H a xs) (hb : MSl H b xs) (hn : xs.length < 1000000) (q : Q (.c (.sc (.bool true))) H) :
    ACalls Try.prog 55 [.agg (caC me seen a), .agg (caC me seen b)] H Q := by
  refine acalls_of tabOk Try.func55 (by kernel_rfl) rfl (by kernel_rfl) ?_
  have hra := ha.ren
  have hrb := hb.ren
  (repeat' (first | refine awp_seq ?_ | (refine awp_region tabOk ?_; simp [vs_eq, vs_ok]) | (refine awp_if ?_; simp [vs_eq, vs_ok]) | refine awp_block ?_ | refine And.intro ?_ ?_ | intro _ | (refine awp_skip ?_; simp [vs_eq, vs_ok]) | (refine awp_ret ?_; simp [vs_eq, vs_ok]) | (refine awp_exit ?_; simp [vs_eq, vs_ok])))
  refine ⟨_, equalMail (ha.app _) (hb.app _) hn ⟨rfl, rfl⟩, ?_⟩
  ((try simp); (repeat' (first | refine awp_seq ?_ | (refine awp_region tabOk ?_; simp) | (refine awp_if ?_; simp) | refine awp_block ?_ | refine And.intro ?_ ?_ | intro _ | (refine awp_skip ?_; simp) | (refine awp_ret ?_; simp) | (refine awp_exit ?_; simp))))
  exact ⟨H, _, gcTo_none (fun _ => rfl), q⟩
theorem zero_caC : ([.int .i64 0, .int .i64 0, .int .i64 0, .int .i64 0, .int .i64 0, .int .i64 0, .int .i64 0, .nils] : List Sc) = caC 0 (fun _ => 0) .nils := rfl
@[simp] theorem Ma_sp (s : Int) (f : Nat → Int) (t : ByteArray) : splice 1 (Mt.vs f) [.int .i64 s, .int .i64 0, .int .i64 0, .int .i64 0, .int .i64 0, .int .i64 0, .int .i64 0, .str t] = (Ma.mk s f t).enc := rfl
@[simp] theorem Ma_set7 (s : Int) (f : Nat → Int) (t u : ByteArray) : (Ma.mk s f t).enc.set 7 (.str u) = (Ma.mk s f u).enc := rfl
@[simp] theorem Ma_ren (f : Nat → Nat) (xs : List Ma) : (xs.flatMap Ma.enc).map (renS f) = xs.flatMap Ma.enc := by
  rw [List.map_flatMap]; congr 1
def bump (seen : Nat → Int) (k : Nat) : Nat → Int := fun i => if i = k then seen k + 1 else seen i
set_option maxRecDepth 100000 in
set_option maxHeartbeats 1000000 in
theorem causalCast {H : List Blk} {me : Int} {seen : Nat → Int} {a : Sc} {xs : List Ma} {text : ByteArray} {Q : AV → List Blk → Prop} (ha : MSl H a xs) (hxw : ∀ x ∈ xs, x.wf)
    (q0 : ¬caErr me seen xs = 0 → Q (.tup [.agg (caC 0 (fun _ => 0) .nils), .agg zMa, .sc (.int .i64 (caErr me seen xs))]) H)
    (q1 : caErr me seen xs = 0 → 16777215 ≤ seen me.toNat → Q (.tup [.agg (caC 0 (fun _ => 0) .nils), .agg zMa, .sc (.int .i64 8)]) H)
    (q2 : caErr me seen xs = 0 → ¬16777215 ≤ seen me.toNat → ∀ b L, MSl (H ++ L) b xs → Q (.tup [.agg (caC me (bump seen me.toNat) b), .agg (Ma.mk me (bump seen me.toNat) text).enc, .sc (.int .i64 0)]) (H ++ L)) :
    ACalls Try.prog 52 [.agg (caC me seen a), .sc (.str text)] H Q := by
  refine acalls_of tabOk Try.func52 (by kernel_rfl) rfl (by kernel_rfl) ?_
  have hra := ha.ren
  (repeat' (first | refine awp_seq ?_ | (refine awp_region tabOk ?_; simp) | (refine awp_if ?_; simp) | refine awp_block ?_ | refine And.intro ?_ ?_ | intro _ | (refine awp_skip ?_; simp) | (refine awp_ret ?_; simp) | (refine awp_exit ?_; simp)))
  refine causalCheck (ha.app _) hxw ?_
  by_cases he : caErr me seen xs = 0
  · obtain ⟨g1, g2, g3, g4⟩ : 0 ≤ me ∧ me ≤ 5 ∧ Wn (fun _ => 0) seen ∧ xs.length ≤ 40 := by
      unfold caErr at he
      split at he
      · cases he
      · next h =>
        split at he
        · cases he
        · refine ⟨by omega, by omega, ?_, by omega⟩
          by_cases hw : Wn (fun _ => 0) seen
          · exact hw
          · exact absurd (.inr (.inr hw)) h
    rw [he]
    obtain ⟨k, hk, rfl⟩ : ∃ k : Nat, k < 6 ∧ (k : Int) = me := ⟨me.toNat, by omega, by omega⟩
    rw [Int.toNat_natCast] at q1 q2
    have s1 := caC_seen k seen a hk
    obtain ⟨_, s2⟩ := List.getElem?_eq_some_iff.1 s1
    have hk6 : (k : Int) < 6 := by omega
    have hk7 : 1 + k ≤ 7 := by omega
    by_cases hf : 16777215 ≤ seen k
    · ((try simp [hk, hk6, s1, s2, hf]); (repeat' (first | refine awp_seq ?_ | (refine awp_region tabOk ?_; simp [hk, hk6, s1, s2, hf]) | (refine awp_if ?_; simp [hk, hk6, s1, s2, hf]) | refine awp_block ?_ | refine And.intro ?_ ?_ | intro _ | (refine awp_skip ?_; simp [hk, hk6, s1, s2, hf]) | (refine awp_ret ?_; simp [hk, hk6, s1, s2, hf]) | (refine awp_exit ?_; simp [hk, hk6, s1, s2, hf]))))
      exact ⟨H, _, gcTo_none (fun _ => rfl), q1 he hf⟩
    · have wi : IntKind.i64.wrap (seen k + 1) = seen k + 1 := wrap_in _ (by have h : 0 ≤ seen k := g3 k hk; omega) (by omega)
      have st := caC_setS (me := (k : Int)) (seen := seen) (a := a) hk (seen k + 1)
      rw [show (fun i => if i = k then seen k + 1 else seen i) = bump seen k from rfl] at st
      ((try simp [hk, hk6, hk7, s1, s2, hf, wi, st]); (repeat' (first | refine awp_seq ?_ | (refine awp_region tabOk ?_; simp [hk, hk6, hk7, s1, s2, hf, wi, st]) | (refine awp_if ?_; simp [hk, hk6, hk7, s1, s2, hf, wi, st]) | refine awp_block ?_ | refine And.intro ?_ ?_ | intro _ | (refine awp_skip ?_; simp [hk, hk6, hk7, s1, s2, hf, wi, st]) | (refine awp_ret ?_; simp [hk, hk6, hk7, s1, s2, hf, wi, st]) | (refine awp_exit ?_; simp [hk, hk6, hk7, s1, s2, hf, wi, st]))))
      refine cloneMail (ha.app _) (by omega) (fun b h1 h2 => ?_) (fun h1 => ?_)
      · subst h1
        have hb : MSl H b [] := .inl ⟨rfl, h2⟩
        have hrb := hb.ren
        ((try simp); (repeat' (first | refine awp_seq ?_ | (refine awp_region tabOk ?_; simp) | (refine awp_if ?_; simp) | refine awp_block ?_ | refine And.intro ?_ ?_ | intro _ | (refine awp_skip ?_; simp) | (refine awp_ret ?_; simp) | (refine awp_exit ?_; simp))))
        refine awp_draw tabOk mixed [(0, 7), (2, 7), (4, 7), (0, 8), (2, 8), (4, 8), (7, 8)] (by kernel_rfl) ?_
        simp
        (repeat' (first | refine awp_seq ?_ | (refine awp_region tabOk ?_; simp) | (refine awp_if ?_; simp) | refine awp_block ?_ | refine And.intro ?_ ?_ | intro _ | (refine awp_skip ?_; simp) | (refine awp_ret ?_; simp) | (refine awp_exit ?_; simp)))
        refine ⟨H, _, gcTo_none (fun top => by simp [hrb]), ?_⟩
        have := q2 he hf b [] (by simpa using hb)
        rw [List.append_nil] at this
        exact this
      · ((try simp); (repeat' (first | refine awp_seq ?_ | (refine awp_region tabOk ?_; simp) | (refine awp_if ?_; simp) | refine awp_block ?_ | refine And.intro ?_ ?_ | intro _ | (refine awp_skip ?_; simp) | (refine awp_ret ?_; simp) | (refine awp_exit ?_; simp))))
        refine awp_draw tabOk mixed [(0, 7), (2, 7), (4, 7), (0, 8), (2, 8), (4, 8), (7, 8)] (by kernel_rfl) ?_
        simp
        (repeat' (first | refine awp_seq ?_ | (refine awp_region tabOk ?_; simp) | (refine awp_if ?_; simp) | refine awp_block ?_ | refine And.intro ?_ ?_ | intro _ | (refine awp_skip ?_; simp) | (refine awp_ret ?_; simp) | (refine awp_exit ?_; simp)))
        refine ⟨H ++ [.own (xs.flatMap Ma.enc)], .tup [.agg (caC k (bump seen k) (.sl H.length 0 8 xs.length xs.length)), .agg (Ma.mk k (bump seen k) text).enc, .sc (.int .i64 0)], gcTo_std [3] (gcOk_of (by decide) (by simp)) (by simp), ?_⟩
        exact q2 he hf _ _ (GSl.ownC (cs := xs.flatMap Ma.enc) mlen (by simp) (by rw [flat_all mlen _ rfl]) (Nat.le_refl _) (by rw [flat_len mlen]; exact Nat.le_refl _))
  · ((try simp [he, zero_caC]); (repeat' (first | refine awp_seq ?_ | (refine awp_region tabOk ?_; simp [he, zero_caC]) | (refine awp_if ?_; simp [he, zero_caC]) | refine awp_block ?_ | refine And.intro ?_ ?_ | intro _ | (refine awp_skip ?_; simp [he, zero_caC]) | (refine awp_ret ?_; simp [he, zero_caC]) | (refine awp_exit ?_; simp [he, zero_caC]))))
    exact ⟨H, _, gcTo_none (fun _ => rfl), q0 he⟩
end Go.Proofs.Ytdeockoaalpcjaa
