/- Letting go of blocks behind a stretch of blocks that stay; tables of bools by rows. No program stands here. -/
import Derived.Test.YtjjhogleiolngaaB1
import Derived.Test.YtjjhogleiolngaaFn
set_option linter.unusedVariables false
namespace Go.Proofs.Ytjjhogleiolngaa
open Go.RowKit
theorem gc_relA {ρ ρ0 : Map} {H0 A K : List Blk} {w0 w : World} {L L' : List Blk} {ks : List Nat} (hK : K = H0 ++ A) (h0 : Rel ρ0 H0 w0) (hr : Rel ρ (K ++ L) w) (hs : Stp H0.length ρ0 H0 w0 ρ (K ++ L) w)
    (hg : GcOk K.length ks (K ++ L).length L L') (hA : ∀ b ∈ A, renB (mStd K.length ks (K ++ L).length) b = b) :
    Rel (fun i => ρ (mStd K.length ks (K ++ L).length i)) (K ++ L') w ∧ Stp H0.length ρ0 H0 w0 (fun i => ρ (mStd K.length ks (K ++ L).length i)) (K ++ L') w := by
  obtain ⟨g1, g2, g3⟩ := hg
  have kl : H0.length ≤ K.length := by rw [hK]; simp
  refine rel_ren h0 hr hs (fun i hi => mStd_low (by omega)) (fun i hi => ?_) (fun i blk hi => ?_) (fun i j bi bj hij h1 h2 ho hl => ?_)
  · simp only [List.length_append, g1] at hi
    unfold mStd
    rw [if_neg (by omega), List.getElem?_eq_none (by omega)]
    simp only []
    omega
  · by_cases hlt : i < K.length
    · rw [List.getElem?_append_left hlt] at hi
      by_cases hlo : i < H0.length
      · refine .inr (.inl ⟨hlo, by rw [List.getElem?_append_left hlt]; exact hi, ?_⟩)
        rw [hK, List.getElem?_append_left hlo] at hi
        exact hi
      · refine .inr (.inr ?_)
        rw [mStd_low hlt, List.getElem?_append_left hlt, hi]
        rw [hK, List.getElem?_append_right (by omega)] at hi
        rw [hA blk (List.mem_of_getElem? hi)]
    · rw [List.getElem?_append_right (by omega)] at hi
      rcases g3 _ blk hi with rfl | ⟨k, hk, hb⟩
      · exact .inl rfl
      · refine .inr (.inr ?_)
        have e : mStd K.length ks (K ++ L).length i = K.length + k := by unfold mStd; rw [if_neg hlt, hk]
        rw [e, List.getElem?_append_right (by omega), Nat.add_sub_cancel_left]; exact hb
  · have at_ : ∀ (i : Nat) (b : Blk), K.length ≤ i → (K ++ L')[i]? = some b → b.live → ∃ k, ks[i - K.length]? = some k ∧ mStd K.length ks (K ++ L).length i = K.length + k := fun i b hge hb hlv => by
      rw [List.getElem?_append_right hge] at hb
      rcases g3 _ b hb with rfl | ⟨k, hk, _⟩
      · exact hlv.elim
      · exact ⟨k, hk, by unfold mStd; rw [if_neg (by omega), hk]⟩
    by_cases hi : i < K.length <;> by_cases hj : j < K.length
    · rw [mStd_low hi, mStd_low hj]; exact hij
    · obtain ⟨k, _, e⟩ := at_ j bj (by omega) h2 hl
      rw [mStd_low hi, e]; omega
    · obtain ⟨k, _, e⟩ := at_ i bi (by omega) h1 (Blk.live_of_own ho)
      rw [mStd_low hj, e]; omega
    · obtain ⟨k, hk, e⟩ := at_ i bi (by omega) h1 (Blk.live_of_own ho)
      obtain ⟨k', hk', e'⟩ := at_ j bj (by omega) h2 hl
      rw [e, e']
      intro hkk
      have : k = k' := by omega
      subst this
      have hik : i - K.length < ks.length := (List.getElem?_eq_some_iff.1 hk).1
      have := (List.getElem?_inj hik g2).1 (hk.trans hk'.symm)
      omega
/-- What a block holds are numbers of blocks below n alone. -/
def LowB (n : Nat) (b : Blk) : Prop := ∀ m : Nat → Nat, (∀ i, i < n → m i = i) → renB m b = b
theorem lowB_std {n : Nat} {A : List Blk} (h : ∀ b ∈ A, LowB n b) (ks : List Nat) (top : Nat) : ∀ b ∈ A, renB (mStd n ks top) b = b := fun b hb => h b hb _ fun i hi => mStd_low hi
theorem wk_gclA {N : Nat} {H0 A K H' : List Blk} {T : Nat → AV} {L L' : List Blk} {l : List (Nat × AV)} (hK : K = H0 ++ A) (hA : ∀ b ∈ A, LowB K.length b) (ks : List Nat) (hg : GcOk K.length ks (K ++ L).length L L') (hH : K ++ L' = H')
    (h : tlOkM (mStd K.length ks (K ++ L).length) T l) : Wk N H0 T (K ++ L) (tl l) H' := by
  subst hH
  intro ρ0 w0 ρ a w h0 hs
  obtain ⟨h1, h2⟩ := gc_relA hK h0 hs.rel hs.stp hg (lowB_std hA _ _)
  refine ⟨_, hs.dfr, ⟨hs.slots.1, fun i hi => ?_⟩, h1, by rw [hK]; simp, h2⟩
  rcases tl_ofM h i with e | e
  · rw [e]; exact trivial
  · have := hs.slots.2 i hi
    rw [← e] at this
    exact relV_ren this
theorem wk_tlE {N : Nat} {H0 H H' : List Blk} {T : Nat → AV} {l : List (Nat × AV)} (hH : H = H') (h : tlOk T l) : Wk N H0 T H (tl l) H' := by subst hH; exact wk_tl h
theorem setlow' {H L : List Blk} {id : Nat} {b : Blk} (h : id < H.length) : (H ++ L).set id b = H.set id b ++ L := List.set_append_left _ _ h
theorem gcTo_A {H0 A K H' : List Blk} {L L' : List Blk} {v v' : AV} (hK : K = H0 ++ A) (hA : ∀ b ∈ A, LowB K.length b) (ks : List Nat) (hg : GcOk K.length ks (K ++ L).length L L') (hH : K ++ L' = H')
    (hv : renV (mStd K.length ks (K ++ L).length) v' = v) : GcTo H0 (K ++ L) v H' v' := by
  subst hH
  refine ⟨by rw [hK]; simp, fun ρ0 w0 h0 ρ w u h1 h2 h3 => ?_⟩
  obtain ⟨q1, q2⟩ := gc_relA hK h0 h1 h2 hg (lowB_std hA _ _)
  exact ⟨_, q1, q2, by rw [← hv] at h3; exact relV_ren h3⟩
/-- Of what was made behind K some is kept, of K nothing but the caller's. -/
theorem gcTo_K1 {H0 A K L L' : List Blk} {v v' : AV} (hK : K = H0 ++ A) (ks : List Nat) (hg : GcOk H0.length (ks.map fun k => A.length + k) (K ++ L).length (A ++ L) L') (hv : renV (mStd H0.length (ks.map fun k => A.length + k) (K ++ L).length) v' = v) : GcTo H0 (K ++ L) v (H0 ++ L') v' := by
  subst hK
  rw [List.append_assoc] at hg hv ⊢
  exact gcTo_std _ hg hv
theorem gcTo_Kn {H K L : List Blk} {v : AV} (h : ∃ M, K = H ++ M) (hv : ∀ top, renV (mStd H.length [] top) v = v) : GcTo H (K ++ L) v H v := by
  obtain ⟨M, rfl⟩ := h
  rw [List.append_assoc]
  exact gcTo_none hv
/-- A table of n rows of n bools. -/
def BM (H : List Blk) (a : Sc) (n : Nat) (f : Nat → Nat → Bool) : Prop :=
  ∃ id cs, a = .sl id 0 1 n n ∧ Blk.cells? H[id]? = some cs ∧ cs.length = n ∧ ∀ i, i < n → ∃ rid, cs[i]? = some (.sl rid 0 1 n n) ∧ Blk.cells? H[rid]? = some (fnB n (f i))
theorem BM.app {H : List Blk} {a : Sc} {n : Nat} {f : Nat → Nat → Bool} (h : BM H a n f) (L : List Blk) : BM (H ++ L) a n f := by
  obtain ⟨id, cs, h1, h2, h3, h4⟩ := h
  exact ⟨id, cs, h1, lowc_of h2 L, h3, fun i hi => by obtain ⟨rid, g1, g2⟩ := h4 i hi; exact ⟨rid, g1, lowc_of g2 L⟩⟩
theorem BM.ext {H : List Blk} {a : Sc} {n : Nat} {f g : Nat → Nat → Bool} (h : BM H a n f) (e : ∀ i j, i < n → j < n → f i j = g i j) : BM H a n g := by
  obtain ⟨id, cs, h1, h2, h3, h4⟩ := h
  exact ⟨id, cs, h1, h2, h3, fun i hi => by obtain ⟨rid, g1, g2⟩ := h4 i hi; exact ⟨rid, g1, by rw [g2, fnB_ext fun j hj => e i j hi hj]⟩⟩
/-- The heads of the first k rows, which lie from b on. -/
def hdr (b n k : Nat) : List Sc := (List.range n).map fun j => if j < k then .sl (b + j) 0 1 n n else .nils
def rowsB (n k : Nat) (f : Nat → Nat → Bool) : List Blk := (List.range k).map fun j => .own (fnB n (f j))
@[simp] theorem hdr_len (b n k : Nat) : (hdr b n k).length = n := by simp [hdr]
@[simp] theorem rowsB_len (n k : Nat) (f : Nat → Nat → Bool) : (rowsB n k f).length = k := by simp [rowsB]
theorem hdr_at {b n k j : Nat} (h : j < n) : (hdr b n k)[j]? = some (if j < k then .sl (b + j) 0 1 n n else .nils) := by simp [hdr, h]
theorem hdr_zero (b n : Nat) : hdr b n 0 = List.replicate n .nils := by
  apply List.ext_getElem?; intro q
  by_cases hq : q < n
  · rw [hdr_at hq]; simp [hq]
  · rw [List.getElem?_eq_none (by simp; omega), List.getElem?_eq_none (by simp; omega)]
theorem hdr_set {b n k : Nat} (h : k < n) : (hdr b n k).set k (.sl (b + k) 0 1 n n) = hdr b n (k + 1) := by
  apply List.ext_getElem?; intro q
  rw [List.getElem?_set]
  by_cases hq : q < n
  · rw [hdr_at hq, hdr_at hq]
    by_cases e : k = q
    · subst e; simp [h]
    · rw [if_neg e]
      by_cases hl : q < k
      · rw [if_pos hl, if_pos (by omega)]
      · rw [if_neg hl, if_neg (by omega)]
  · rw [List.getElem?_eq_none (l := hdr b n k) (by simp; omega), List.getElem?_eq_none (by simp; omega), if_neg (by omega)]
theorem hdr_low {b n k : Nat} {K : Nat} (h : b + k ≤ K) : LowB K (.own (hdr b n k)) := by
  intro m hm
  show Blk.own _ = Blk.own _
  congr 1
  unfold hdr
  rw [List.map_map]
  refine List.map_congr_left fun j _ => ?_
  simp only [Function.comp]
  split
  · rw [renS_sl, hm _ (by omega)]
  · rfl
theorem rowsB_low {n k K : Nat} {f : Nat → Nat → Bool} : ∀ b ∈ rowsB n k f, LowB K b := by
  intro b hb
  obtain ⟨j, _, rfl⟩ := List.mem_map.1 hb
  intro m _
  show Blk.own _ = Blk.own _
  rw [fnB_ren]
theorem rowsB_succ (n k : Nat) (f : Nat → Nat → Bool) : rowsB n (k + 1) f = rowsB n k f ++ [.own (fnB n (f k))] := by
  unfold rowsB; rw [List.range_succ, List.map_append]; rfl
theorem rowsB_at {n k : Nat} {f : Nat → Nat → Bool} {j : Nat} (h : j < k) : (rowsB n k f)[j]? = some (.own (fnB n (f j))) := by simp [rowsB, h]
theorem BM.of {H : List Blk} {n : Nat} {f : Nat → Nat → Bool} : BM (H ++ .own (hdr (H.length + 1) n n) :: rowsB n n f) (.sl H.length 0 1 n n) n f := by
  refine ⟨H.length, _, rfl, by rw [List.getElem?_append_right (Nat.le_refl _), Nat.sub_self]; rfl, by simp, fun i hi => ⟨H.length + 1 + i, by rw [hdr_at hi, if_pos hi], ?_⟩⟩
  rw [List.getElem?_append_right (by omega), show H.length + 1 + i - H.length = i + 1 by omega, List.getElem?_cons_succ, rowsB_at hi]
  rfl
end Go.Proofs.Ytjjhogleiolngaa
