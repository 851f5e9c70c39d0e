/- CausalSays: the law. -/
import Derived.Test.YtdeockoaalpcjaaCi
namespace Go.Proofs.Ytdeockoaalpcjaa
set_option linter.unusedSimpArgs false
set_option linter.unusedVariables false
open Go.RowKit
attribute [local irreducible] AWP ACalls Wk GcTo
attribute [local simp] tab3 ti3 tab4 ti4 tab38 ti38 tab86 ti86 tab88 ti88 tab84 ti84 tab24 ti24 tab9 ti9 tab22 ti22
theorem Ma_ok8 (m : Ma) : okSs [.int .i64, .int .i64, .int .i64, .int .i64, .int .i64, .int .i64, .int .i64, .str] m.enc = true := rfl
theorem zMa_eq : eqSs zMa zMa = true := by simp [zMa, eqSs, eqS]
theorem zMa_ok : okSs [.int .i64, .int .i64, .int .i64, .int .i64, .int .i64, .int .i64, .int .i64, .str] zMa = true := rfl
def zM : Ma := ⟨0, fun _ => 0, ⟨#[]⟩⟩
theorem zM_enc : zMa = zM.enc := rfl
theorem zM_lit : ([.int .i64 0, .int .i64 0, .int .i64 0, .int .i64 0, .int .i64 0, .int .i64 0, .int .i64 0, .str ⟨#[]⟩] : List Sc) = zM.enc := rfl
theorem gcTo_K {H K L : List Blk} {v : AV} (h : ∃ M, K = H ++ M) (hv : ∀ top, renV (mStd H.length [] top) v = v) : GcTo H (K ++ L) v H v := by
  obtain ⟨M, rfl⟩ := h
  rw [List.append_assoc]
  exact gcTo_none hv
theorem runM_len : ∀ (n : Nat) (s : Nat → Int) (h o : List Ma), (runM n s h o).2.1.length + (runM n s h o).2.2.length ≤ h.length + o.length
  | 0, s, h, o => Nat.le_refl _
  | n + 1, s, h, o => by
    unfold runM
    split
    · exact Nat.le_refl _
    · next k _ =>
      split
      · exact Nat.le_refl _
      · next x hx =>
        have := runM_len n (bump s x.k) (h.eraseIdx k) (o ++ [x])
        have hk := (List.getElem?_eq_some_iff.1 hx).1
        rw [List.length_eraseIdx_of_lt hk, List.length_append, List.length_singleton] at this
        omega
theorem hearR_len (me : Int) (seen : Nat → Int) {xs : List Ma} (m : Ma) (h : xs.length ≤ 40) : (hearR me seen xs m).hold.length < 1000000 ∧ (hearR me seen xs m).out.length < 1000000 := by
  unfold hearR
  split
  · exact ⟨by show xs.length < _; omega, by show 0 < _; omega⟩
  · split
    · have h1 := runM_len xs.length (bump seen m.k) xs [m]
      have h2 := List.length_filter_le (fun x => !lateM (runM xs.length (bump seen m.k) xs [m]).1 x) (runM xs.length (bump seen m.k) xs [m]).2.1
      rw [List.length_singleton] at h1
      exact ⟨by show (List.filter _ _).length < _; omega, by show (runM xs.length (bump seen m.k) xs [m]).2.2.length < _; omega⟩
    · split
      · exact ⟨by show 0 < _; omega, by show 0 < _; omega⟩
      · exact ⟨by show (xs ++ [m]).length < _; rw [List.length_append, List.length_singleton]; omega, by show 0 < _; omega⟩
set_option maxRecDepth 100000 in
set_option maxHeartbeats 8000000 in
theorem causal_law {H : List Blk} {me : Int} {seen : Nat → Int} {a : Sc} {xs : List Ma} {m : Ma} {text : ByteArray} {Q : AV → List Blk → Prop} (ha : MSl H a xs) (hxw : ∀ x ∈ xs, x.wf) (hmw : m.wf) (hsm : ∀ j, j < 6 → seen j ≤ 9223372036854775807)
    (q : Q (.c (.sc (.bool true))) H) : ACalls Try.prog 9 [.agg (caC me seen a), .sc (.str text), .agg m.enc] H Q := by
  refine acalls_of tabOk Try.func9 (by kernel_rfl) rfl (by kernel_rfl) ?_
  have hra := ha.ren
  (repeat' (first | refine awp_seq ?_ | (refine awp_region tabOk ?_; simp) | (refine awp_if ?_; simp) | refine awp_block ?_ | refine And.intro ?_ ?_ | intro _ | (refine awp_skip ?_; simp) | (refine awp_ret ?_; simp) | (refine awp_exit ?_; simp)))
  refine causalErr (ha.app _) hxw hsm ?_
  ((try simp); (repeat' (first | refine awp_seq ?_ | (refine awp_region tabOk ?_; simp) | (refine awp_if ?_; simp) | refine awp_block ?_ | refine And.intro ?_ ?_ | intro _ | (refine awp_skip ?_; simp) | (refine awp_ret ?_; simp) | (refine awp_exit ?_; simp))))
  by_cases he : caErr me seen xs = 0
  · obtain ⟨g1, g2, g3, g4, g5⟩ := err_ok he
    have hxR := scan_ok g5
    have hsb : Sb seen := fun j hj => ⟨g3 j hj, hsm j hj⟩
    rw [he]
    obtain ⟨k, hk, rfl⟩ : ∃ k : Nat, k < 6 ∧ (k : Int) = me := ⟨me.toNat, by omega, by omega⟩
    have hk6 : (k : Int) < 6 := by omega
    have hk7 : 1 + k ≤ 7 := by omega
    have s1 := fun c => caC_seen k seen c hk
    have s2 : ∀ c (h : 1 + k < (caC k seen c).length), (caC k seen c)[1 + k] = .int .i64 (seen k) := fun c h => (List.getElem?_eq_some_iff.1 (s1 c)).2
    have st : ∀ c, (caC k seen c).set (1 + k) (.int .i64 (seen k + 1)) = caC k (bump seen k) c := fun c => caC_setS k seen c hk _
    refine causalCast (ha.app _) hxw (fun h => absurd he h) (fun _ hf => ?_) (fun _ hf b L hb => ?_)
    · rw [Int.toNat_natCast] at hf
      rw [zM_enc]
      obtain ⟨K, hK, hK0, hK1, hK2, hKH⟩ : ∃ K : List Blk, K = H ++ [.own (caC k seen a), .own m.enc] ∧ (∀ M : List Blk, (K ++ M)[H.length]? = some (.own (caC k seen a))) ∧ (∀ M : List Blk, (K ++ M)[H.length + 1]? = some (.own m.enc)) ∧ MSl K a xs ∧ ∃ M, K = H ++ M := ⟨_, rfl, by simp, by simp, ha.app _, ⟨_, rfl⟩⟩
      rw [← hK]
      have hKn := hK0 []
      have hKm := hK1 []
      rw [List.append_nil] at hKn hKm
      ((try simp [hK0, hK1, hKn, hKm, zM_lit, Nat.add_assoc]); (repeat' (first | refine awp_seq ?_ | (refine awp_region tabOk ?_; simp [hK0, hK1, hKn, hKm, zM_lit, Nat.add_assoc]) | (refine awp_if ?_; simp [hK0, hK1, hKn, hKm, zM_lit, Nat.add_assoc]) | refine awp_block ?_ | refine And.intro ?_ ?_ | intro _ | (refine awp_skip ?_; simp [hK0, hK1, hKn, hKm, zM_lit, Nat.add_assoc]) | (refine awp_ret ?_; simp [hK0, hK1, hKn, hKm, zM_lit, Nat.add_assoc]) | (refine awp_exit ?_; simp [hK0, hK1, hKn, hKm, zM_lit, Nat.add_assoc]))))
      by_cases hR : m.Rt
      · refine causalHear (hK2.app _) hxw hmw hsm (fun h => absurd he h) (fun _ h => absurd hR h) (fun _ _ b2 c2 L2 hb2 hc2 => ?_)
        obtain ⟨r, hr⟩ : ∃ r, r = hearR k seen xs m := ⟨_, rfl⟩
        have hlen := hearR_len k seen m g4
        rw [← hr] at hb2 hc2 hlen ⊢
        obtain ⟨G, hG, hG0, hG1, hG2, hG3, hG4, hGH⟩ : ∃ G : List Blk, G = K ++ [.own (caC 0 (fun _ => 0) .nils), .own zM.enc] ++ L2 ∧ (∀ M : List Blk, (G ++ M)[H.length]? = some (.own (caC k seen a))) ∧ (∀ M : List Blk, (G ++ M)[H.length + 1]? = some (.own m.enc)) ∧
            (∀ M : List Blk, (G ++ M)[K.length]? = some (.own (caC 0 (fun _ => 0) .nils))) ∧ (∀ M : List Blk, (G ++ M)[K.length + 1]? = some (.own zM.enc)) ∧ MSl G a xs ∧ ∃ M, G = H ++ M :=
          ⟨_, rfl, fun M => by rw [List.append_assoc, List.append_assoc]; exact hK0 _, fun M => by rw [List.append_assoc, List.append_assoc]; exact hK1 _, by simp, by simp, (hK2.app _).app L2, by obtain ⟨M, hM⟩ := hKH; exact ⟨M ++ ([.own (caC 0 (fun _ => 0) .nils), .own zM.enc] ++ L2), by rw [hM]; simp⟩⟩
        rw [← hG] at hb2 hc2 ⊢
        skip
        have n0 := hG0 []
        have n1 := hG1 []
        have n2 := hG2 []
        have n3 := hG3 []
        rw [List.append_nil] at n0 n1 n2 n3
        clear hG hK hK0 hK1 hKn hKm
        ((try simp [zero_caC, hG0, hG1, hG2, hG3, n0, n1, n2, n3, Nat.add_assoc]); (repeat' (first | refine awp_seq ?_ | (refine awp_region tabOk ?_; simp [zero_caC, hG0, hG1, hG2, hG3, n0, n1, n2, n3, Nat.add_assoc]) | (refine awp_if ?_; simp [zero_caC, hG0, hG1, hG2, hG3, n0, n1, n2, n3, Nat.add_assoc]) | refine awp_block ?_ | refine And.intro ?_ ?_ | intro _ | (refine awp_skip ?_; simp [zero_caC, hG0, hG1, hG2, hG3, n0, n1, n2, n3, Nat.add_assoc]) | (refine awp_ret ?_; simp [zero_caC, hG0, hG1, hG2, hG3, n0, n1, n2, n3, Nat.add_assoc]) | (refine awp_exit ?_; simp [zero_caC, hG0, hG1, hG2, hG3, n0, n1, n2, n3, Nat.add_assoc]))))
        refine causalCheck (hG4.app _) hxw ?_
        ((try simp [he, hG0, hG1, hG2, hG3, n0, n1, n2, n3, hk6, hk7, s1, s2, hf]); (repeat' (first | refine awp_seq ?_ | (refine awp_region tabOk ?_; simp [he, hG0, hG1, hG2, hG3, n0, n1, n2, n3, hk6, hk7, s1, s2, hf]) | (refine awp_if ?_; simp [he, hG0, hG1, hG2, hG3, n0, n1, n2, n3, hk6, hk7, s1, s2, hf]) | refine awp_block ?_ | refine And.intro ?_ ?_ | intro _ | (refine awp_skip ?_; simp [he, hG0, hG1, hG2, hG3, n0, n1, n2, n3, hk6, hk7, s1, s2, hf]) | (refine awp_ret ?_; simp [he, hG0, hG1, hG2, hG3, n0, n1, n2, n3, hk6, hk7, s1, s2, hf]) | (refine awp_exit ?_; simp [he, hG0, hG1, hG2, hG3, n0, n1, n2, n3, hk6, hk7, s1, s2, hf]))))
        refine sameCausal (xs := []) msl_nil msl_nil (by simp) ?_
        ((try simp [zM_lit, Ma.eq_enc, Ma_ok8, hG0, hG1, hG2, hG3, n0, n1, n2, n3]); (repeat' (first | refine awp_seq ?_ | (refine awp_region tabOk ?_; simp [zM_lit, Ma.eq_enc, Ma_ok8, hG0, hG1, hG2, hG3, n0, n1, n2, n3]) | (refine awp_if ?_; simp [zM_lit, Ma.eq_enc, Ma_ok8, hG0, hG1, hG2, hG3, n0, n1, n2, n3]) | refine awp_block ?_ | refine And.intro ?_ ?_ | intro _ | (refine awp_skip ?_; simp [zM_lit, Ma.eq_enc, Ma_ok8, hG0, hG1, hG2, hG3, n0, n1, n2, n3]) | (refine awp_ret ?_; simp [zM_lit, Ma.eq_enc, Ma_ok8, hG0, hG1, hG2, hG3, n0, n1, n2, n3]) | (refine awp_exit ?_; simp [zM_lit, Ma.eq_enc, Ma_ok8, hG0, hG1, hG2, hG3, n0, n1, n2, n3]))))
        refine mailRight ?_
        ((try simp [hR, hG0, hG1, hG2, hG3, n0, n1, n2, n3]); (repeat' (first | refine awp_seq ?_ | (refine awp_region tabOk ?_; simp [hR, hG0, hG1, hG2, hG3, n0, n1, n2, n3]) | (refine awp_if ?_; simp [hR, hG0, hG1, hG2, hG3, n0, n1, n2, n3]) | refine awp_block ?_ | refine And.intro ?_ ?_ | intro _ | (refine awp_skip ?_; simp [hR, hG0, hG1, hG2, hG3, n0, n1, n2, n3]) | (refine awp_ret ?_; simp [hR, hG0, hG1, hG2, hG3, n0, n1, n2, n3]) | (refine awp_exit ?_; simp [hR, hG0, hG1, hG2, hG3, n0, n1, n2, n3]))))
        refine refHear (hG4.app _) (fun x hx => ⟨hxR x hx, hxw x hx⟩) hmw hR hsb g4 (fun b3 c3 L3 hb3 hc3 => ?_)
        rw [← hr] at hb3 hc3 ⊢
        obtain ⟨T, hT, hT0, hb4, hc4, hTH⟩ : ∃ T : List Blk, T = G ++ [.own (caC r.me r.seen b2), .own (caC 0 (fun _ => 0) .nils)] ++ L3 ∧ (∀ M : List Blk, (T ++ M)[G.length]? = some (.own (caC r.me r.seen b2))) ∧ MSl T b2 r.hold ∧ MSl T c2 r.out ∧ ∃ M, T = H ++ M :=
          ⟨_, rfl, by simp, (hb2.app _).app L3, (hc2.app _).app L3, by obtain ⟨M, hM⟩ := hGH; exact ⟨M ++ ([.own (caC r.me r.seen b2), .own (caC 0 (fun _ => 0) .nils)] ++ L3), by rw [hM]; simp⟩⟩
        rw [← hT] at hb3 hc3 ⊢
        have p0 := hT0 []
        rw [List.append_nil] at p0
        clear hT
        ((try simp [hT0, p0, Nat.add_assoc]); (repeat' (first | refine awp_seq ?_ | (refine awp_region tabOk ?_; simp [hT0, p0, Nat.add_assoc]) | (refine awp_if ?_; simp [hT0, p0, Nat.add_assoc]) | refine awp_block ?_ | refine And.intro ?_ ?_ | intro _ | (refine awp_skip ?_; simp [hT0, p0, Nat.add_assoc]) | (refine awp_ret ?_; simp [hT0, p0, Nat.add_assoc]) | (refine awp_exit ?_; simp [hT0, p0, Nat.add_assoc]))))
        refine sameCausal (hb4.app _) (hb3.app _) hlen.1 ?_
        ((try simp [hT0, p0]); (repeat' (first | refine awp_seq ?_ | (refine awp_region tabOk ?_; simp [hT0, p0]) | (refine awp_if ?_; simp [hT0, p0]) | refine awp_block ?_ | refine And.intro ?_ ?_ | intro _ | (refine awp_skip ?_; simp [hT0, p0]) | (refine awp_ret ?_; simp [hT0, p0]) | (refine awp_exit ?_; simp [hT0, p0]))))
        refine ⟨_, equalMail (hc4.app _) (hc3.app _) hlen.2 ⟨rfl, rfl⟩, ?_⟩
        ((try simp); (repeat' (first | refine awp_seq ?_ | (refine awp_region tabOk ?_; simp) | (refine awp_if ?_; simp) | refine awp_block ?_ | refine And.intro ?_ ?_ | intro _ | (refine awp_skip ?_; simp) | (refine awp_ret ?_; simp) | (refine awp_exit ?_; simp))))
        exact ⟨H, _, gcTo_K hTH (fun _ => rfl), q⟩
      · refine causalHear (hK2.app _) hxw hmw hsm (fun h => absurd he h) (fun _ _ => ?_) (fun _ h => absurd h hR)
        ((try simp [zero_caC, hK0, hK1, hKn, hKm]); (repeat' (first | refine awp_seq ?_ | (refine awp_region tabOk ?_; simp [zero_caC, hK0, hK1, hKn, hKm]) | (refine awp_if ?_; simp [zero_caC, hK0, hK1, hKn, hKm]) | refine awp_block ?_ | refine And.intro ?_ ?_ | intro _ | (refine awp_skip ?_; simp [zero_caC, hK0, hK1, hKn, hKm]) | (refine awp_ret ?_; simp [zero_caC, hK0, hK1, hKn, hKm]) | (refine awp_exit ?_; simp [zero_caC, hK0, hK1, hKn, hKm]))))
        refine causalCheck (hK2.app _) hxw ?_
        ((try simp [he, hK0, hK1, hKn, hKm, hk6, hk7, s1, s2, hf]); (repeat' (first | refine awp_seq ?_ | (refine awp_region tabOk ?_; simp [he, hK0, hK1, hKn, hKm, hk6, hk7, s1, s2, hf]) | (refine awp_if ?_; simp [he, hK0, hK1, hKn, hKm, hk6, hk7, s1, s2, hf]) | refine awp_block ?_ | refine And.intro ?_ ?_ | intro _ | (refine awp_skip ?_; simp [he, hK0, hK1, hKn, hKm, hk6, hk7, s1, s2, hf]) | (refine awp_ret ?_; simp [he, hK0, hK1, hKn, hKm, hk6, hk7, s1, s2, hf]) | (refine awp_exit ?_; simp [he, hK0, hK1, hKn, hKm, hk6, hk7, s1, s2, hf]))))
        refine sameCausal (xs := []) msl_nil msl_nil (by simp) ?_
        ((try simp [zM_lit, Ma.eq_enc, Ma_ok8, hK0, hK1, hKn, hKm]); (repeat' (first | refine awp_seq ?_ | (refine awp_region tabOk ?_; simp [zM_lit, Ma.eq_enc, Ma_ok8, hK0, hK1, hKn, hKm]) | (refine awp_if ?_; simp [zM_lit, Ma.eq_enc, Ma_ok8, hK0, hK1, hKn, hKm]) | refine awp_block ?_ | refine And.intro ?_ ?_ | intro _ | (refine awp_skip ?_; simp [zM_lit, Ma.eq_enc, Ma_ok8, hK0, hK1, hKn, hKm]) | (refine awp_ret ?_; simp [zM_lit, Ma.eq_enc, Ma_ok8, hK0, hK1, hKn, hKm]) | (refine awp_exit ?_; simp [zM_lit, Ma.eq_enc, Ma_ok8, hK0, hK1, hKn, hKm]))))
        refine mailRight ?_
        ((try simp [hR, hK0, hK1, hKn, hKm]); (repeat' (first | refine awp_seq ?_ | (refine awp_region tabOk ?_; simp [hR, hK0, hK1, hKn, hKm]) | (refine awp_if ?_; simp [hR, hK0, hK1, hKn, hKm]) | refine awp_block ?_ | refine And.intro ?_ ?_ | intro _ | (refine awp_skip ?_; simp [hR, hK0, hK1, hKn, hKm]) | (refine awp_ret ?_; simp [hR, hK0, hK1, hKn, hKm]) | (refine awp_exit ?_; simp [hR, hK0, hK1, hKn, hKm]))))
        refine sameCausal (xs := []) msl_nil msl_nil (by simp) ?_
        ((try simp); (repeat' (first | refine awp_seq ?_ | (refine awp_region tabOk ?_; simp) | (refine awp_if ?_; simp) | refine awp_block ?_ | refine And.intro ?_ ?_ | intro _ | (refine awp_skip ?_; simp) | (refine awp_ret ?_; simp) | (refine awp_exit ?_; simp))))
        exact ⟨H, _, gcTo_K hKH (fun _ => rfl), q⟩
    · rw [Int.toNat_natCast] at hf
      rw [Int.toNat_natCast]
      have wi : IntKind.i64.wrap (seen k + 1) = seen k + 1 := by have h : 0 ≤ seen k := g3 k hk; exact wrap_in _ (by omega) (by omega)
      obtain ⟨K, hK, hK0, hK1, hK2, hKH⟩ : ∃ K : List Blk, K = H ++ [.own (caC k seen a), .own m.enc] ++ L ∧ (∀ M : List Blk, (K ++ M)[H.length]? = some (.own (caC k seen a))) ∧ (∀ M : List Blk, (K ++ M)[H.length + 1]? = some (.own m.enc)) ∧ MSl K a xs ∧ ∃ M, K = H ++ M := ⟨_, rfl, by simp, by simp, (ha.app _).app L, ⟨_, List.append_assoc _ _ _⟩⟩
      rw [← hK]
      have hKn := hK0 []
      have hKm := hK1 []
      rw [List.append_nil] at hKn hKm
      rw [← hK] at hb
      ((try simp [hK0, hK1, hKn, hKm, zM_lit, Nat.add_assoc]); (repeat' (first | refine awp_seq ?_ | (refine awp_region tabOk ?_; simp [hK0, hK1, hKn, hKm, zM_lit, Nat.add_assoc]) | (refine awp_if ?_; simp [hK0, hK1, hKn, hKm, zM_lit, Nat.add_assoc]) | refine awp_block ?_ | refine And.intro ?_ ?_ | intro _ | (refine awp_skip ?_; simp [hK0, hK1, hKn, hKm, zM_lit, Nat.add_assoc]) | (refine awp_ret ?_; simp [hK0, hK1, hKn, hKm, zM_lit, Nat.add_assoc]) | (refine awp_exit ?_; simp [hK0, hK1, hKn, hKm, zM_lit, Nat.add_assoc]))))
      by_cases hR : m.Rt
      · refine causalHear (hK2.app _) hxw hmw hsm (fun h => absurd he h) (fun _ h => absurd hR h) (fun _ _ b2 c2 L2 hb2 hc2 => ?_)
        obtain ⟨r, hr⟩ : ∃ r, r = hearR k seen xs m := ⟨_, rfl⟩
        have hlen := hearR_len k seen m g4
        rw [← hr] at hb2 hc2 hlen ⊢
        obtain ⟨G, hG, hG0, hG1, hG2, hG3, hG4, hGH⟩ : ∃ G : List Blk, G = K ++ [.own (caC k (bump seen k) b), .own (Ma.mk k (bump seen k) text).enc] ++ L2 ∧ (∀ M : List Blk, (G ++ M)[H.length]? = some (.own (caC k seen a))) ∧ (∀ M : List Blk, (G ++ M)[H.length + 1]? = some (.own m.enc)) ∧
            (∀ M : List Blk, (G ++ M)[K.length]? = some (.own (caC k (bump seen k) b))) ∧ (∀ M : List Blk, (G ++ M)[K.length + 1]? = some (.own (Ma.mk k (bump seen k) text).enc)) ∧ MSl G a xs ∧ ∃ M, G = H ++ M :=
          ⟨_, rfl, fun M => by rw [List.append_assoc, List.append_assoc]; exact hK0 _, fun M => by rw [List.append_assoc, List.append_assoc]; exact hK1 _, by simp, by simp, (hK2.app _).app L2, by obtain ⟨M, hM⟩ := hKH; exact ⟨M ++ ([.own (caC k (bump seen k) b), .own (Ma.mk k (bump seen k) text).enc] ++ L2), by rw [hM]; simp⟩⟩
        rw [← hG] at hb2 hc2 ⊢
        have hbG : MSl G b xs := by rw [hG]; exact (hb.app _).app L2
        have n0 := hG0 []
        have n1 := hG1 []
        have n2 := hG2 []
        have n3 := hG3 []
        rw [List.append_nil] at n0 n1 n2 n3
        clear hG hK hK0 hK1 hKn hKm
        ((try simp [zero_caC, hG0, hG1, hG2, hG3, n0, n1, n2, n3, Nat.add_assoc]); (repeat' (first | refine awp_seq ?_ | (refine awp_region tabOk ?_; simp [zero_caC, hG0, hG1, hG2, hG3, n0, n1, n2, n3, Nat.add_assoc]) | (refine awp_if ?_; simp [zero_caC, hG0, hG1, hG2, hG3, n0, n1, n2, n3, Nat.add_assoc]) | refine awp_block ?_ | refine And.intro ?_ ?_ | intro _ | (refine awp_skip ?_; simp [zero_caC, hG0, hG1, hG2, hG3, n0, n1, n2, n3, Nat.add_assoc]) | (refine awp_ret ?_; simp [zero_caC, hG0, hG1, hG2, hG3, n0, n1, n2, n3, Nat.add_assoc]) | (refine awp_exit ?_; simp [zero_caC, hG0, hG1, hG2, hG3, n0, n1, n2, n3, Nat.add_assoc]))))
        refine causalCheck (hG4.app _) hxw ?_
        ((try simp [he, hG0, hG1, hG2, hG3, n0, n1, n2, n3, hk6, hk7, s1, s2, hf, wi, st]); (repeat' (first | refine awp_seq ?_ | (refine awp_region tabOk ?_; simp [he, hG0, hG1, hG2, hG3, n0, n1, n2, n3, hk6, hk7, s1, s2, hf, wi, st]) | (refine awp_if ?_; simp [he, hG0, hG1, hG2, hG3, n0, n1, n2, n3, hk6, hk7, s1, s2, hf, wi, st]) | refine awp_block ?_ | refine And.intro ?_ ?_ | intro _ | (refine awp_skip ?_; simp [he, hG0, hG1, hG2, hG3, n0, n1, n2, n3, hk6, hk7, s1, s2, hf, wi, st]) | (refine awp_ret ?_; simp [he, hG0, hG1, hG2, hG3, n0, n1, n2, n3, hk6, hk7, s1, s2, hf, wi, st]) | (refine awp_exit ?_; simp [he, hG0, hG1, hG2, hG3, n0, n1, n2, n3, hk6, hk7, s1, s2, hf, wi, st]))))
        refine sameCausal (hbG.app _) (hG4.app _) (by omega) ?_
        ((try simp [Ma.eq_enc, Ma_ok8, hG0, hG1, hG2, hG3, n0, n1, n2, n3]); (repeat' (first | refine awp_seq ?_ | (refine awp_region tabOk ?_; simp [Ma.eq_enc, Ma_ok8, hG0, hG1, hG2, hG3, n0, n1, n2, n3]) | (refine awp_if ?_; simp [Ma.eq_enc, Ma_ok8, hG0, hG1, hG2, hG3, n0, n1, n2, n3]) | refine awp_block ?_ | refine And.intro ?_ ?_ | intro _ | (refine awp_skip ?_; simp [Ma.eq_enc, Ma_ok8, hG0, hG1, hG2, hG3, n0, n1, n2, n3]) | (refine awp_ret ?_; simp [Ma.eq_enc, Ma_ok8, hG0, hG1, hG2, hG3, n0, n1, n2, n3]) | (refine awp_exit ?_; simp [Ma.eq_enc, Ma_ok8, hG0, hG1, hG2, hG3, n0, n1, n2, n3]))))
        refine mailRight ?_
        ((try simp [hR, hG0, hG1, hG2, hG3, n0, n1, n2, n3]); (repeat' (first | refine awp_seq ?_ | (refine awp_region tabOk ?_; simp [hR, hG0, hG1, hG2, hG3, n0, n1, n2, n3]) | (refine awp_if ?_; simp [hR, hG0, hG1, hG2, hG3, n0, n1, n2, n3]) | refine awp_block ?_ | refine And.intro ?_ ?_ | intro _ | (refine awp_skip ?_; simp [hR, hG0, hG1, hG2, hG3, n0, n1, n2, n3]) | (refine awp_ret ?_; simp [hR, hG0, hG1, hG2, hG3, n0, n1, n2, n3]) | (refine awp_exit ?_; simp [hR, hG0, hG1, hG2, hG3, n0, n1, n2, n3]))))
        refine refHear (hG4.app _) (fun x hx => ⟨hxR x hx, hxw x hx⟩) hmw hR hsb g4 (fun b3 c3 L3 hb3 hc3 => ?_)
        rw [← hr] at hb3 hc3 ⊢
        obtain ⟨T, hT, hT0, hb4, hc4, hTH⟩ : ∃ T : List Blk, T = G ++ [.own (caC r.me r.seen b2), .own (caC 0 (fun _ => 0) .nils), .own (caC k (bump seen k) a)] ++ L3 ∧ (∀ M : List Blk, (T ++ M)[G.length]? = some (.own (caC r.me r.seen b2))) ∧ MSl T b2 r.hold ∧ MSl T c2 r.out ∧ ∃ M, T = H ++ M :=
          ⟨_, rfl, by simp, (hb2.app _).app L3, (hc2.app _).app L3, by obtain ⟨M, hM⟩ := hGH; exact ⟨M ++ ([.own (caC r.me r.seen b2), .own (caC 0 (fun _ => 0) .nils), .own (caC k (bump seen k) a)] ++ L3), by rw [hM]; simp⟩⟩
        rw [← hT] at hb3 hc3 ⊢
        have p0 := hT0 []
        rw [List.append_nil] at p0
        clear hT
        ((try simp [hT0, p0, Nat.add_assoc]); (repeat' (first | refine awp_seq ?_ | (refine awp_region tabOk ?_; simp [hT0, p0, Nat.add_assoc]) | (refine awp_if ?_; simp [hT0, p0, Nat.add_assoc]) | refine awp_block ?_ | refine And.intro ?_ ?_ | intro _ | (refine awp_skip ?_; simp [hT0, p0, Nat.add_assoc]) | (refine awp_ret ?_; simp [hT0, p0, Nat.add_assoc]) | (refine awp_exit ?_; simp [hT0, p0, Nat.add_assoc]))))
        refine sameCausal (hb4.app _) (hb3.app _) hlen.1 ?_
        ((try simp [hT0, p0]); (repeat' (first | refine awp_seq ?_ | (refine awp_region tabOk ?_; simp [hT0, p0]) | (refine awp_if ?_; simp [hT0, p0]) | refine awp_block ?_ | refine And.intro ?_ ?_ | intro _ | (refine awp_skip ?_; simp [hT0, p0]) | (refine awp_ret ?_; simp [hT0, p0]) | (refine awp_exit ?_; simp [hT0, p0]))))
        refine ⟨_, equalMail (hc4.app _) (hc3.app _) hlen.2 ⟨rfl, rfl⟩, ?_⟩
        ((try simp); (repeat' (first | refine awp_seq ?_ | (refine awp_region tabOk ?_; simp) | (refine awp_if ?_; simp) | refine awp_block ?_ | refine And.intro ?_ ?_ | intro _ | (refine awp_skip ?_; simp) | (refine awp_ret ?_; simp) | (refine awp_exit ?_; simp))))
        exact ⟨H, _, gcTo_K hTH (fun _ => rfl), q⟩
      · refine causalHear (hK2.app _) hxw hmw hsm (fun h => absurd he h) (fun _ _ => ?_) (fun _ h => absurd h hR)
        ((try simp [zero_caC, hK0, hK1, hKn, hKm]); (repeat' (first | refine awp_seq ?_ | (refine awp_region tabOk ?_; simp [zero_caC, hK0, hK1, hKn, hKm]) | (refine awp_if ?_; simp [zero_caC, hK0, hK1, hKn, hKm]) | refine awp_block ?_ | refine And.intro ?_ ?_ | intro _ | (refine awp_skip ?_; simp [zero_caC, hK0, hK1, hKn, hKm]) | (refine awp_ret ?_; simp [zero_caC, hK0, hK1, hKn, hKm]) | (refine awp_exit ?_; simp [zero_caC, hK0, hK1, hKn, hKm]))))
        refine causalCheck (hK2.app _) hxw ?_
        ((try simp [he, hK0, hK1, hKn, hKm, hk6, hk7, s1, s2, hf, wi, st]); (repeat' (first | refine awp_seq ?_ | (refine awp_region tabOk ?_; simp [he, hK0, hK1, hKn, hKm, hk6, hk7, s1, s2, hf, wi, st]) | (refine awp_if ?_; simp [he, hK0, hK1, hKn, hKm, hk6, hk7, s1, s2, hf, wi, st]) | refine awp_block ?_ | refine And.intro ?_ ?_ | intro _ | (refine awp_skip ?_; simp [he, hK0, hK1, hKn, hKm, hk6, hk7, s1, s2, hf, wi, st]) | (refine awp_ret ?_; simp [he, hK0, hK1, hKn, hKm, hk6, hk7, s1, s2, hf, wi, st]) | (refine awp_exit ?_; simp [he, hK0, hK1, hKn, hKm, hk6, hk7, s1, s2, hf, wi, st]))))
        refine sameCausal (hb.app _) (hK2.app _) (by omega) ?_
        ((try simp [Ma.eq_enc, Ma_ok8, hK0, hK1, hKn, hKm]); (repeat' (first | refine awp_seq ?_ | (refine awp_region tabOk ?_; simp [Ma.eq_enc, Ma_ok8, hK0, hK1, hKn, hKm]) | (refine awp_if ?_; simp [Ma.eq_enc, Ma_ok8, hK0, hK1, hKn, hKm]) | refine awp_block ?_ | refine And.intro ?_ ?_ | intro _ | (refine awp_skip ?_; simp [Ma.eq_enc, Ma_ok8, hK0, hK1, hKn, hKm]) | (refine awp_ret ?_; simp [Ma.eq_enc, Ma_ok8, hK0, hK1, hKn, hKm]) | (refine awp_exit ?_; simp [Ma.eq_enc, Ma_ok8, hK0, hK1, hKn, hKm]))))
        refine mailRight ?_
        ((try simp [hR, hK0, hK1, hKn, hKm]); (repeat' (first | refine awp_seq ?_ | (refine awp_region tabOk ?_; simp [hR, hK0, hK1, hKn, hKm]) | (refine awp_if ?_; simp [hR, hK0, hK1, hKn, hKm]) | refine awp_block ?_ | refine And.intro ?_ ?_ | intro _ | (refine awp_skip ?_; simp [hR, hK0, hK1, hKn, hKm]) | (refine awp_ret ?_; simp [hR, hK0, hK1, hKn, hKm]) | (refine awp_exit ?_; simp [hR, hK0, hK1, hKn, hKm]))))
        refine sameCausal (xs := []) msl_nil msl_nil (by simp) ?_
        ((try simp); (repeat' (first | refine awp_seq ?_ | (refine awp_region tabOk ?_; simp) | (refine awp_if ?_; simp) | refine awp_block ?_ | refine And.intro ?_ ?_ | intro _ | (refine awp_skip ?_; simp) | (refine awp_ret ?_; simp) | (refine awp_exit ?_; simp))))
        exact ⟨H, _, gcTo_K hKH (fun _ => rfl), q⟩
  · refine causalCast (ha.app _) hxw (fun _ => ?_) (fun h => absurd h he) (fun h => absurd h he)
    rw [zM_enc]
    ((try simp [zM_lit, Nat.add_assoc]); (repeat' (first | refine awp_seq ?_ | (refine awp_region tabOk ?_; simp [zM_lit, Nat.add_assoc]) | (refine awp_if ?_; simp [zM_lit, Nat.add_assoc]) | refine awp_block ?_ | refine And.intro ?_ ?_ | intro _ | (refine awp_skip ?_; simp [zM_lit, Nat.add_assoc]) | (refine awp_ret ?_; simp [zM_lit, Nat.add_assoc]) | (refine awp_exit ?_; simp [zM_lit, Nat.add_assoc]))))
    refine causalHear (ha.app _) hxw hmw hsm (fun _ => ?_) (fun h => absurd h he) (fun h => absurd h he)
    ((try simp [zero_caC]); (repeat' (first | refine awp_seq ?_ | (refine awp_region tabOk ?_; simp [zero_caC]) | (refine awp_if ?_; simp [zero_caC]) | refine awp_block ?_ | refine And.intro ?_ ?_ | intro _ | (refine awp_skip ?_; simp [zero_caC]) | (refine awp_ret ?_; simp [zero_caC]) | (refine awp_exit ?_; simp [zero_caC]))))
    refine causalCheck (ha.app _) hxw ?_
    ((try simp [he]); (repeat' (first | refine awp_seq ?_ | (refine awp_region tabOk ?_; simp [he]) | (refine awp_if ?_; simp [he]) | refine awp_block ?_ | refine And.intro ?_ ?_ | intro _ | (refine awp_skip ?_; simp [he]) | (refine awp_ret ?_; simp [he]) | (refine awp_exit ?_; simp [he]))))
    refine sameCausal (xs := []) msl_nil msl_nil (by simp) ?_
    ((try simp [he, zM_lit, Ma.eq_enc, Ma_ok8]); (repeat' (first | refine awp_seq ?_ | (refine awp_region tabOk ?_; simp [he, zM_lit, Ma.eq_enc, Ma_ok8]) | (refine awp_if ?_; simp [he, zM_lit, Ma.eq_enc, Ma_ok8]) | refine awp_block ?_ | refine And.intro ?_ ?_ | intro _ | (refine awp_skip ?_; simp [he, zM_lit, Ma.eq_enc, Ma_ok8]) | (refine awp_ret ?_; simp [he, zM_lit, Ma.eq_enc, Ma_ok8]) | (refine awp_exit ?_; simp [he, zM_lit, Ma.eq_enc, Ma_ok8]))))
    refine ⟨_, sameCausal (xs := []) msl_nil msl_nil (by simp) ⟨rfl, rfl⟩, ?_⟩
    ((try simp [he]); (repeat' (first | refine awp_seq ?_ | (refine awp_region tabOk ?_; simp [he]) | (refine awp_if ?_; simp [he]) | refine awp_block ?_ | refine And.intro ?_ ?_ | intro _ | (refine awp_skip ?_; simp [he]) | (refine awp_ret ?_; simp [he]) | (refine awp_exit ?_; simp [he]))))
    exact ⟨H, _, gcTo_none (fun _ => rfl), q⟩
end Go.Proofs.Ytdeockoaalpcjaa
