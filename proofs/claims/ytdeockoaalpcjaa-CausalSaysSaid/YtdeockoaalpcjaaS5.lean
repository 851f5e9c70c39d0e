/- Letting go of blocks where one block of the caller's has been written. No program stands here. -/
import Derived.Test.YtdeockoaalpcjaaB1
set_option linter.unusedVariables false
namespace Go.Proofs.Ytdeockoaalpcjaa
open Go.RowKit
theorem gc_relS {ρ ρ0 : Map} {H0 : List Blk} {id : Nat} {b : Blk} {w0 w : World} {L L' : List Blk} {ks : List Nat} (h0 : Rel ρ0 H0 w0) (hr : Rel ρ (H0.set id b ++ L) w) (hs : Stp H0.length ρ0 H0 w0 ρ (H0.set id b ++ L) w)
    (hg : GcOk H0.length ks (H0.length + L.length) L L') (hb : renB (mStd H0.length ks (H0.length + L.length)) b = b) :
    Rel (fun i => ρ (mStd H0.length ks (H0.length + L.length) i)) (H0.set id b ++ L') w ∧ Stp H0.length ρ0 H0 w0 (fun i => ρ (mStd H0.length ks (H0.length + L.length) i)) (H0.set id b ++ L') w := by
  obtain ⟨g1, g2, g3⟩ := hg
  have kl : (H0.set id b).length = H0.length := by simp
  refine rel_ren h0 hr hs (fun i hi => mStd_low hi) (fun i hi => ?_) (fun i blk hi => ?_) (fun i j bi bj hij h1 h2 ho hl => ?_)
  · simp only [List.length_append, g1, kl] at hi ⊢
    unfold mStd
    rw [if_neg (by omega), List.getElem?_eq_none (by omega)]
    simp only []
    omega
  · by_cases hlt : i < H0.length
    · rw [List.getElem?_append_left (by omega)] at hi
      by_cases e : i = id
      · subst e
        rw [List.getElem?_set_self hlt] at hi
        cases hi
        refine .inr (.inr ?_)
        rw [mStd_low hlt, List.getElem?_append_left (by omega), List.getElem?_set_self hlt, hb]
      · have hi' := hi
        rw [List.getElem?_set_ne (by omega)] at hi'
        exact .inr (.inl ⟨hlt, by rw [List.getElem?_append_left (by omega)]; exact hi, hi'⟩)
    · rw [List.getElem?_append_right (by omega)] at hi
      rcases g3 _ blk hi with rfl | ⟨k, hk, hbk⟩
      · exact .inl rfl
      · refine .inr (.inr ?_)
        rw [kl] at hk
        have e : mStd H0.length ks (H0.length + L.length) i = H0.length + k := by unfold mStd; rw [if_neg hlt, hk]
        rw [e, List.getElem?_append_right (by omega), kl, Nat.add_sub_cancel_left]; exact hbk
  · have at_ : ∀ (i : Nat) (b' : Blk), H0.length ≤ i → (H0.set id b ++ L')[i]? = some b' → b'.live → ∃ k, ks[i - H0.length]? = some k ∧ mStd H0.length ks (H0.length + L.length) i = H0.length + k := fun i b' hge hb hlv => by
      rw [List.getElem?_append_right (by omega), kl] at hb
      rcases g3 _ b' hb with rfl | ⟨k, hk, _⟩
      · exact hlv.elim
      · exact ⟨k, hk, by unfold mStd; rw [if_neg (by omega), hk]⟩
    by_cases hi : i < H0.length <;> by_cases hj : j < H0.length
    · rw [mStd_low hi, mStd_low hj]; exact hij
    · obtain ⟨k, _, e⟩ := at_ j bj (by omega) h2 hl
      rw [mStd_low hi, e]; omega
    · obtain ⟨k, _, e⟩ := at_ i bi (by omega) h1 (Blk.live_of_own ho)
      rw [mStd_low hj, e]; omega
    · obtain ⟨k, hk, e⟩ := at_ i bi (by omega) h1 (Blk.live_of_own ho)
      obtain ⟨k', hk', e'⟩ := at_ j bj (by omega) h2 hl
      rw [e, e']
      intro hkk
      have : k = k' := by omega
      subst this
      have hik : i - H0.length < ks.length := (List.getElem?_eq_some_iff.1 hk).1
      have := (List.getElem?_inj hik g2).1 (hk.trans hk'.symm)
      omega
theorem wk_gclS {N : Nat} {H0 : List Blk} {id : Nat} {b : Blk} {T : Nat → AV} {L L' : List Blk} {l : List (Nat × AV)} (ks : List Nat) (hb : ∀ m, renB m b = b) (hg : GcOk H0.length ks (H0.length + L.length) L L')
    (h : tlOkM (mStd H0.length ks (H0.length + L.length)) T l) : Wk N H0 T (H0.set id b ++ L) (tl l) (H0.set id b ++ L') := by
  intro ρ0 w0 ρ a w h0 hs
  obtain ⟨h1, h2⟩ := gc_relS h0 hs.rel hs.stp hg (hb _)
  refine ⟨_, hs.dfr, ⟨hs.slots.1, fun i hi => ?_⟩, h1, by simp, h2⟩
  rcases tl_ofM h i with e | e
  · rw [e]; exact trivial
  · have := hs.slots.2 i hi
    rw [← e] at this
    exact relV_ren this
/-- Nothing that was made is kept; the caller's block is as it was written. -/
theorem gcTo_noneS {H0 L : List Blk} {id : Nat} {b : Blk} {v : AV} (hb : ∀ m, renB m b = b) (hv : ∀ top, renV (mStd H0.length [] top) v = v) : GcTo H0 (H0.set id b ++ L) v (H0.set id b) v :=
  ⟨by simp, fun ρ0 w0 h0 ρ w u h1 h2 h3 => by
    obtain ⟨q1, q2⟩ := gc_relS (L' := []) (ks := []) h0 h1 h2 ⟨rfl, List.nodup_nil, fun j b h => by simp at h⟩ (hb _)
    rw [List.append_nil] at q1 q2
    exact ⟨_, q1, q2, by rw [← hv (H0.length + L.length)] at h3; exact relV_ren h3⟩⟩
theorem gapS {H L : List Blk} {id : Nat} {b : Blk} (k : Nat) : (H.set id b ++ L)[H.length + k]? = L[k]? := by
  have := gap (H := H.set id b) (L := L) k
  rwa [List.length_set] at this
theorem gapS0 {H L : List Blk} {id : Nat} {b : Blk} : (H.set id b ++ L)[H.length]? = L[0]? := by
  have := gap0 (H := H.set id b) (L := L)
  rwa [List.length_set] at this
theorem sapS {H L : List Blk} {id : Nat} {b : Blk} (k : Nat) (c : Blk) : (H.set id b ++ L).set (H.length + k) c = H.set id b ++ L.set k c := by
  have := sap (H := H.set id b) (L := L) k c
  rwa [List.length_set] at this
theorem sapS0 {H L : List Blk} {id : Nat} {b : Blk} (c : Blk) : (H.set id b ++ L).set H.length c = H.set id b ++ L.set 0 c := by
  have := sap0 (H := H.set id b) (L := L) c
  rwa [List.length_set] at this
theorem setlow {H L : List Blk} {id : Nat} {b : Blk} (h : id < H.length) : (H ++ L).set id b = H.set id b ++ L := List.set_append_left _ _ h
theorem wk_tlH {N : Nat} {H0 H H' : List Blk} {T : Nat → AV} {l : List (Nat × AV)} (hH : H = H') (h : tlOk T l) : Wk N H0 T H (tl l) H' := by subst hH; exact wk_tl h
end Go.Proofs.Ytdeockoaalpcjaa
