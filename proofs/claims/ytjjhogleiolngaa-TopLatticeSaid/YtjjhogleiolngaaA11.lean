/- The abstract machine: blocks let go and named anew; contracts from codes. No program stands here. -/
import Derived.Test.YtjjhogleiolngaaA10
namespace Go.Proofs.Ytjjhogleiolngaa
open Go.RowKit

/-! ### Names anew -/
def renS (m : Nat → Nat) : Sc → Sc
  | .ptr id off => .ptr (m id) off
  | .sl id off es len cap => .sl (m id) off es len cap
  | .fn f caps => .fn f (caps.map fun p => (m p.1, p.2))
  | .mp id => .mp (m id)
  | x => x
def renC (m : Nat → Nat) : AC → AC
  | .sc x => .sc (renS m x)
  | .agg cs => .agg (cs.map (renS m))
  | .top => .top
def renV (m : Nat → Nat) : AV → AV
  | .c x => .c (renC m x)
  | .tup xs => .tup (xs.map (renC m))
  | .grd t x => .grd t (renC m x)
def renB (m : Nat → Nat) : Blk → Blk
  | .own cs => .own (cs.map (renS m))
  | .ro cs => .ro (cs.map (renS m))
  | .mapB kk kv es => .mapB kk kv es
  | .dead => .dead

section
variable {ρ : Map} {m : Nat → Nat}
theorem relS_ren {x : Sc} {v : Value} (h : relS ρ (renS m x) v) : relS (fun i => ρ (m i)) x v := by
  cases x with
  | fn f caps =>
    obtain ⟨vs, e, h1, h2⟩ := h
    refine ⟨vs, e, by simpa using h1, fun j p hp => ?_⟩
    exact h2 j (m p.1, p.2) (by simp [hp])
  | _ => exact h
theorem relC_ren {x : AC} {v : Value} (h : relC ρ (renC m x) v) : relC (fun i => ρ (m i)) x v := by
  cases x with
  | sc x => exact relS_ren h
  | agg cs =>
    obtain ⟨vs, e, h1, h2⟩ := h
    refine ⟨vs, e, by simpa using h1, fun j x hj => ?_⟩
    obtain ⟨u, hu, r⟩ := h2 j (renS m x) (by simp [hj])
    exact ⟨u, hu, relS_ren r⟩
  | top => trivial
theorem relV_ren {x : AV} {v : Value} (h : relV ρ (renV m x) v) : relV (fun i => ρ (m i)) x v := by
  cases x with
  | c x => exact relC_ren h
  | tup xs =>
    obtain ⟨vs, e, h1, h2⟩ := h
    refine ⟨vs, e, by simpa using h1, fun j x hj => ?_⟩
    obtain ⟨u, hu, r⟩ := h2 j (renC m x) (by simp [hj])
    exact ⟨u, hu, relC_ren r⟩
  | grd t x => exact ⟨fun e => relC_ren (h.1 e), h.2⟩
theorem cellsAt_ren {c : Array Value} {o : Nat} {cs : List Sc} (h : cellsAt ρ c o (cs.map (renS m))) : cellsAt (fun i => ρ (m i)) c o cs := fun j x hj => by
  obtain ⟨u, hu, r⟩ := h j (renS m x) (by simp [hj])
  exact ⟨u, hu, relS_ren r⟩
theorem holds_ren {w : World} {L : Loc} {b : Blk} (h : holds ρ w L (renB m b)) : holds (fun i => ρ (m i)) w L b := by
  cases b with
  | own cs => obtain ⟨h1, c, e, h2, h3, h4⟩ := h; exact ⟨by simpa using h1, c, e, h2, h3, cellsAt_ren h4⟩
  | ro cs => obtain ⟨c, e, fr, h2, h4⟩ := h; exact ⟨c, e, fr, h2, cellsAt_ren h4⟩
  | mapB kk kv es => exact h
  | dead => trivial
theorem renB_own {b : Blk} : (renB m b).isOwn ↔ b.isOwn := by cases b <;> exact Iff.rfl
theorem renB_live {b : Blk} : (renB m b).live ↔ b.live := by cases b <;> exact Iff.rfl
/-- Scalars that stood for something where only numbers below n were known. -/
theorem renS_low {ρ0 : Map} {n : Nat} (hd : ∀ i L, ρ0 i = some L → i < n) (hm : ∀ i, i < n → m i = i) {x : Sc} {v : Value} (h : relS ρ0 x v) : renS m x = x := by
  cases x with
  | ptr id off => obtain ⟨L, e, _⟩ := h; simp [renS, hm id (hd id L e)]
  | sl id off es len cap => obtain ⟨L, _, _, e, _⟩ := h; simp [renS, hm id (hd id L e)]
  | mp id => obtain ⟨L, e, _⟩ := h; simp [renS, hm id (hd id L e)]
  | fn f caps =>
    obtain ⟨vs, _, h1, h2⟩ := h
    simp only [renS, Sc.fn.injEq, true_and]
    apply List.ext_getElem?
    intro j
    rw [List.getElem?_map]
    cases hj : caps[j]? with
    | none => rfl
    | some p => obtain ⟨L, e, _⟩ := h2 j p hj; simp [hm p.1 (hd _ L e)]
  | _ => rfl

theorem rel_ren {ρ0 : Map} {H0 : List Blk} {w0 : World} {H H' : List Blk} {w : World} (h0 : Rel ρ0 H0 w0) (hr : Rel ρ H w) (hs : Stp H0.length ρ0 H0 w0 ρ H w)
    (ha : ∀ i, i < H0.length → m i = i) (hb : ∀ i, H'.length ≤ i → H.length ≤ m i)
    (hc : ∀ i blk, H'[i]? = some blk → blk = .dead ∨ (i < H0.length ∧ H[i]? = some blk ∧ H0[i]? = some blk) ∨ H[m i]? = some (renB m blk))
    (hd : ∀ i j bi bj, i ≠ j → H'[i]? = some bi → H'[j]? = some bj → bi.isOwn → bj.live → m i ≠ m j) :
    Rel (fun i => ρ (m i)) H' w ∧ Stp H0.length ρ0 H0 w0 (fun i => ρ (m i)) H' w := by
  have key : ∀ i L blk, ρ (m i) = some L → H'[i]? = some blk → blk.live → ∃ b', H[m i]? = some b' ∧ (b'.isOwn ↔ blk.isOwn) ∧ b'.live ∧ holds (fun i => ρ (m i)) w L blk := by
    intro i L blk e hi hl
    rcases hc i blk hi with rfl | ⟨h1, h2, h3⟩ | h1
    · exact hl.elim
    · rw [ha i h1] at e ⊢
      refine ⟨blk, h2, Iff.rfl, hl, ?_⟩
      have e0 : ρ0 i = some L := by rw [← hs.ext i h1]; exact e
      have b0 := h0.has i L blk e0 h3
      have b1 := hr.has i L blk e h2
      have low : ∀ {cs : List Sc} {c c0 : Array Value} {o : Nat}, cellsAt ρ0 c0 o cs → cellsAt ρ c o cs → cellsAt (fun i => ρ (m i)) c o cs := fun {cs c c0 o} q0 q1 j x hj => by
        obtain ⟨v0, _, r0⟩ := q0 j x hj
        obtain ⟨v1, hv1, r1⟩ := q1 j x hj
        refine ⟨v1, hv1, relS_ren ?_⟩
        rw [renS_low h0.dom ha r0]; exact r1
      cases blk with
      | own cs => obtain ⟨_, c0, _, _, _, q0⟩ := b0; obtain ⟨p1, c, e', p2, p3, q1⟩ := b1; exact ⟨p1, c, e', p2, p3, low q0 q1⟩
      | ro cs => obtain ⟨c0, _, _, _, q0⟩ := b0; obtain ⟨c, e', fr, p2, q1⟩ := b1; exact ⟨c, e', fr, p2, low q0 q1⟩
      | mapB kk kv es => exact b1
      | dead => trivial
    · exact ⟨_, h1, renB_own, renB_live.2 hl, holds_ren (hr.has _ L _ e h1)⟩
  constructor
  · refine ⟨fun i L e => ?_, fun i L blk e hi => ?_, fun i j L M bi bj hij e1 e2 h1 h2 ho hl => ?_⟩
    · by_cases hlt : i < H'.length
      · exact hlt
      · have := hr.dom _ L e; have := hb i (by omega); omega
    · by_cases hl : blk.live
      · exact (key i L blk e hi hl).choose_spec.2.2.2
      · cases blk <;> first | trivial | exact (hl trivial).elim
    · obtain ⟨b1, p1, p2, p3, _⟩ := key i L bi e1 h1 (Blk.live_of_own ho)
      obtain ⟨b2, q1, q2, q3, _⟩ := key j M bj e2 h2 hl
      exact hr.sep _ _ L M b1 b2 (hd i j bi bj hij h1 h2 ho hl) e1 e2 p1 q1 (p2.2 ho) q3
  · refine ⟨fun i hi => ?_, hs.os, hs.tape, hs.output, hs.size, hs.frame, fun i L blk e hi ho => ?_⟩
    · simp only [ha i hi]; exact hs.ext i hi
    · obtain ⟨b1, p1, p2, p3, _⟩ := key i L blk e hi (Blk.live_of_own ho)
      exact hs.own _ L b1 e p1 (p2.2 ho)
end

/-- The standard renaming: below n nothing changes, from n on block j is the elder n + ks[j]. -/
def mStd (n : Nat) (ks : List Nat) (top : Nat) (i : Nat) : Nat := if i < n then i else match ks[i - n]? with | some k => n + k | none => top + i
theorem mStd_low {n i : Nat} {ks : List Nat} {top : Nat} (h : i < n) : mStd n ks top i = i := by simp [mStd, h]
theorem mStd_at {n j : Nat} {ks : List Nat} {top : Nat} : mStd n ks top (n + j) = match ks[j]? with | some k => n + k | none => top + (n + j) := by unfold mStd; rw [if_neg (by omega), Nat.add_sub_cancel_left]
theorem mStd_0 {n : Nat} {ks : List Nat} {top : Nat} : mStd n ks top n = match ks[0]? with | some k => n + k | none => top + n := by simp [mStd]

/-- Block j of the new ones is block ks[j] of the elder ones, or dead. -/
def GcOk (n : Nat) (ks : List Nat) (top : Nat) (L L' : List Blk) : Prop :=
  L'.length = ks.length ∧ ks.Nodup ∧ ∀ (j : Nat) (b : Blk), L'[j]? = some b → b = .dead ∨ ∃ k, ks[j]? = some k ∧ L[k]? = some (renB (mStd n ks top) b)

theorem gc_rel {ρ ρ0 : Map} {H0 : List Blk} {w0 w : World} {L L' : List Blk} {ks : List Nat} (h0 : Rel ρ0 H0 w0) (hr : Rel ρ (H0 ++ L) w) (hs : Stp H0.length ρ0 H0 w0 ρ (H0 ++ L) w)
    (hg : GcOk H0.length ks (H0 ++ L).length L L') :
    Rel (fun i => ρ (mStd H0.length ks (H0 ++ L).length i)) (H0 ++ L') w ∧ Stp H0.length ρ0 H0 w0 (fun i => ρ (mStd H0.length ks (H0 ++ L).length i)) (H0 ++ L') w := by
  obtain ⟨g1, g2, g3⟩ := hg
  refine rel_ren h0 hr hs (fun i hi => mStd_low hi) (fun i hi => ?_) (fun i blk hi => ?_) (fun i j bi bj hij h1 h2 ho hl => ?_)
  · simp only [List.length_append, g1] at hi
    unfold mStd
    rw [if_neg (by omega), List.getElem?_eq_none (by omega)]
    simp only []
    omega
  · by_cases hlt : i < H0.length
    · rw [List.getElem?_append_left hlt] at hi
      exact .inr (.inl ⟨hlt, by rw [List.getElem?_append_left hlt]; exact hi, hi⟩)
    · rw [List.getElem?_append_right (by omega)] at hi
      rcases g3 _ blk hi with rfl | ⟨k, hk, hb⟩
      · exact .inl rfl
      · refine .inr (.inr ?_)
        have e : mStd H0.length ks (H0 ++ L).length i = H0.length + k := by unfold mStd; rw [if_neg hlt, hk]
        rw [e, List.getElem?_append_right (by omega), Nat.add_sub_cancel_left]; exact hb
  · have at_ : ∀ (i : Nat) (b : Blk), H0.length ≤ i → (H0 ++ L')[i]? = some b → b.live → ∃ k, ks[i - H0.length]? = some k ∧ mStd H0.length ks (H0 ++ L).length i = H0.length + k := fun i b hge hb hlv => by
      rw [List.getElem?_append_right hge] at hb
      rcases g3 _ b hb with rfl | ⟨k, hk, _⟩
      · exact hlv.elim
      · exact ⟨k, hk, by unfold mStd; rw [if_neg (by omega), hk]⟩
    by_cases hi : i < H0.length <;> by_cases hj : j < H0.length
    · rw [mStd_low hi, mStd_low hj]; exact hij
    · obtain ⟨k, _, e⟩ := at_ j bj (by omega) h2 hl
      rw [mStd_low hi, e]; omega
    · obtain ⟨k, _, e⟩ := at_ i bi (by omega) h1 (Blk.live_of_own ho)
      rw [mStd_low hj, e]; omega
    · obtain ⟨k, hk, e⟩ := at_ i bi (by omega) h1 (Blk.live_of_own ho)
      obtain ⟨k', hk', e'⟩ := at_ j bj (by omega) h2 hl
      rw [e, e']
      intro hkk
      have : k = k' := by omega
      subst this
      have hik : i - H0.length < ks.length := (List.getElem?_eq_some_iff.1 hk).1
      have := (List.getElem?_inj hik g2).1 (hk.trans hk'.symm)
      omega

/-- A state of the same meaning, where blocks that the function itself made are let go or named anew. -/
theorem wk_gc {N : Nat} {H0 : List Blk} {T T' : Nat → AV} {L L' : List Blk} (ks : List Nat) (hg : GcOk H0.length ks (H0 ++ L).length L L') (hT : ∀ i, T' i = .c .top ∨ renV (mStd H0.length ks (H0 ++ L).length) (T' i) = T i) :
    Wk N H0 T (H0 ++ L) T' (H0 ++ L') := by
  intro ρ0 w0 ρ a w h0 hs
  obtain ⟨h1, h2⟩ := gc_rel h0 hs.rel hs.stp hg
  refine ⟨_, hs.dfr, ⟨hs.slots.1, fun i hi => ?_⟩, h1, by simp, h2⟩
  rcases hT i with e | e
  · rw [e]; exact trivial
  · have := hs.slots.2 i hi
    rw [← e] at this
    exact relV_ren this

/-- What is handed back, blocks let go or named anew. -/
def GcTo (H0 : List Blk) (H : List Blk) (v : AV) (H' : List Blk) (v' : AV) : Prop :=
  H0.length ≤ H'.length ∧ ∀ ρ0 w0, Rel ρ0 H0 w0 → ∀ ρ w u, Rel ρ H w → Stp H0.length ρ0 H0 w0 ρ H w → relV ρ v u → ∃ ρ', Rel ρ' H' w ∧ Stp H0.length ρ0 H0 w0 ρ' H' w ∧ relV ρ' v' u
theorem GcTo.refl {H0 H : List Blk} {v : AV} (h : H0.length ≤ H.length) : GcTo H0 H v H v := ⟨h, fun _ _ _ ρ _ _ h1 h2 h3 => ⟨ρ, h1, h2, h3⟩⟩
theorem gcTo_std {H0 L L' : List Blk} {v v' : AV} (ks : List Nat) (hg : GcOk H0.length ks (H0 ++ L).length L L') (hv : renV (mStd H0.length ks (H0 ++ L).length) v' = v) : GcTo H0 (H0 ++ L) v (H0 ++ L') v' :=
  ⟨by simp, fun ρ0 w0 h0 ρ w u h1 h2 h3 => by
    obtain ⟨q1, q2⟩ := gc_rel h0 h1 h2 hg
    exact ⟨_, q1, q2, by rw [← hv] at h3; exact relV_ren h3⟩⟩
/-- Nothing that was made is kept. -/
theorem gcTo_none {H0 L : List Blk} {v : AV} (hv : ∀ top, renV (mStd H0.length [] top) v = v) : GcTo H0 (H0 ++ L) v H0 v := by
  have := gcTo_std (H0 := H0) (L := L) (L' := []) (v := v) [] ⟨rfl, List.nodup_nil, fun j b h => by simp at h⟩ (hv _)
  simpa using this

/-! ### A contract from a code -/
def retQ (tab : TypeId → Option TI) (rs : List ResultVar) (H0 : List Blk) (Q : AV → List Blk → Prop) : Exit → (Nat → AV) → List Blk → Prop
  | .normal, T, H | .ret, T, H => match ressC tab T H rs with
    | some (p, vs) => p ∧ ∃ H' v', GcTo H0 H (tupC vs) H' v' ∧ Q v' H'
    | none => False
  | _, _, _ => False

theorem T0_rel {ρ : Map} {N : Nat} {xs : List AC} {vs : Array Value} (h : relArgs ρ xs vs) (hN : xs.length ≤ N) : Slots ρ N (T0 xs 0) { tmps := vs ++ Array.replicate (N - vs.size) undef, defers := [] } := by
  refine ⟨by simp [h.1]; omega, fun i hi => ?_⟩
  have key : ∀ (xs : List AC) (k i : Nat), (i < k → T0 xs k i = .c .top) ∧ (∀ j, i = k + j → T0 xs k i = match xs[j]? with | some x => .c x | none => .c .top) := by
    intro xs
    induction xs with
    | nil => intro k i; exact ⟨fun _ => rfl, fun j _ => rfl⟩
    | cons x xs ih =>
      intro k i
      refine ⟨fun hlt => ?_, fun j hj => ?_⟩
      · simp only [T0, upd]; rw [if_neg (by omega)]; exact (ih (k + 1) i).1 (by omega)
      · cases j with
        | zero => simp [T0, upd, hj]
        | succ j => simp only [T0, upd]; rw [if_neg (by omega), (ih (k + 1) i).2 j (by omega)]; simp
  rw [(key xs 0 i).2 i (by omega)]
  simp only
  cases hx : xs[i]? with
  | none => trivial
  | some x =>
    obtain ⟨u, hu, r⟩ := h.2 i x hx
    have hlt : i < vs.size := (Array.getElem?_eq_some_iff.1 hu).1
    rw [Array.getD_eq_getD_getElem?, Array.getElem?_append_left hlt, hu]
    exact r

theorem acalls_of {P : Program} {tab : TypeId → Option TI} (ht : TabOk P tab) {f : FuncId} {fn : Func} {c : Code} (hf : P.funcs[f]? = some fn) (hn : (fn.name == "runtime.NumGoroutine") = false) (hb : fn.body = some c)
    {args : List AC} {H : List Blk} {Q : AV → List Blk → Prop} (hfit : (fitC fn.ntmps c && resFit fn.ntmps fn.results.toList && decide (args.length ≤ fn.ntmps)) = true)
    (h : AWP P fn.ntmps H c (retQ tab fn.results.toList H Q) (T0 args 0) H) : ACalls P f args H Q := by
  simp only [Bool.and_eq_true, decide_eq_true_eq] at hfit
  obtain ⟨⟨f1, f2⟩, f3⟩ := hfit
  refine ⟨⟨fn, c, hf, hn, hb⟩, fun ρ w cargs ha hr => calls_of_wp hf hb ?_⟩
  refine wp_mono (h f1 ρ w hr ρ _ w ⟨rfl, T0_rel ha f3, hr, Nat.le_refl _, Stp.refl _ _ _ _⟩) ?_
  rintro e a' w' ⟨ρ', T', H', hs, hq⟩
  have fin : (match ressC tab T' H' fn.results.toList with | some (p, vs) => p ∧ ∃ H'' v', GcTo H H' (tupC vs) H'' v' ∧ Q v' H'' | none => False) →
      a'.defers = [] ∧ ∃ v, (results fn a'.tmps).run P w' = .ok v w' ∧ ∃ v2 ρ2 H2 u, Ending.returned v = .returned u ∧ relV ρ2 v2 u ∧ Rel ρ2 H2 w' ∧ H.length ≤ H2.length ∧ Stp H.length ρ H w ρ2 H2 w' ∧ Q v2 H2 := by
    intro hq
    refine ⟨hs.dfr, ?_⟩
    split at hq
    · rename_i p vs hres
      obtain ⟨hp, H2, v2, hg, hQ⟩ := hq
      obtain ⟨us, hu, hru⟩ := ressC_sound (P := P) ht hs.slots hs.rel (F := fun | .tmp t => pure (a'.tmps.getD t undef) | .cell x t => do loadVar t (← asAddr (a'.tmps.getD x undef))) (fun _ => rfl) (fun _ _ => rfl) fn.results.toList f2 p vs hres hp
      have hsz : us.length = vs.length := by simpa using hru.1
      have hv : ∃ u, (results fn a'.tmps).run P w' = .ok u w' ∧ relV ρ' (tupC vs) u := by
        have hrun : (results fn a'.tmps).run P w' = .ok (if h : us.toArray.size = 1 then us.toArray[0] else .tuple us.toArray) w' := by
          unfold results
          rw [Sem.run_bind, Array.mapM_eq_mapM_toList, Sem.run_map]
          erw [hu]
          rfl
        refine ⟨_, hrun, ?_⟩
        match vs, us, hsz, hru with
        | [], [], _, _ => exact ⟨#[], by simp, rfl, fun j x h => by simp at h⟩
        | [x], [u], _, hru => obtain ⟨u', hu', r⟩ := hru.2 0 x rfl; simp at hu'; subst hu'; exact r
        | x :: y :: r, u :: v :: s, _, hru => exact ⟨_, by simp, hru.1, hru.2⟩
      obtain ⟨u, hu1, hu2⟩ := hv
      obtain ⟨ρ2, q1, q2, q3⟩ := hg.2 ρ w hr ρ' w' u hs.rel hs.stp hu2
      exact ⟨u, hu1, v2, ρ2, H2, u, rfl, q3, q1, hg.1, q2, hQ⟩
    · exact hq.elim
  cases e with
  | normal => exact fin hq
  | ret => exact fin hq
  | _ => exact hq.elim
end Go.Proofs.Ytjjhogleiolngaa
