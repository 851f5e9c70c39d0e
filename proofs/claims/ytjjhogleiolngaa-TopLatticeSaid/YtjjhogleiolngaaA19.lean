/- The abstract machine: the law of a region whose order is drawn. No program stands here. -/
import Derived.Test.YtjjhogleiolngaaA18
namespace Go.Proofs.Ytjjhogleiolngaa
open Go.RowKit

def unl (listed : Array Bool) : Nat → Nat
  | 0 => 0
  | k + 1 => unl listed k + if listed.getD k false = true then 0 else 1
theorem unl_set {listed : Array Bool} {k : Nat} (hk : k < listed.size) (hl : listed.getD k false = false) : ∀ n, (k < n → unl (listed.setIfInBounds k true) n + 1 = unl listed n) ∧ (n ≤ k → unl (listed.setIfInBounds k true) n = unl listed n)
  | 0 => ⟨fun h => by omega, fun _ => rfl⟩
  | n + 1 => by
    obtain ⟨h1, h2⟩ := unl_set hk hl n
    simp only [unl, getD_set hk]
    refine ⟨fun h => ?_, fun h => ?_⟩
    · by_cases e : n = k
      · subst e; rw [h2 (Nat.le_refl _)]; simp [hl]
      · rw [if_neg e, ← h1 (by omega)]; omega
    · have e : ¬ n = k := by omega
      simp only [e, if_false]
      rw [h2 (by omega)]
theorem unl_zero {listed : Array Bool} : ∀ {n : Nat}, unl listed n = 0 → ∀ k, k < n → listed.getD k false = true
  | 0, _, k, h => by omega
  | n + 1, h, k, hk => by
    simp only [unl] at h
    by_cases e : k = n
    · subst e
      apply Decidable.byContradiction
      intro hc
      rw [if_neg hc] at h; omega
    · have h' : unl listed n = 0 := by omega
      exact unl_zero h' k (by omega)
theorem unl_le {listed : Array Bool} : ∀ n, unl listed n ≤ n
  | 0 => Nat.le_refl _
  | n + 1 => by simp only [unl]; have := unl_le (listed := listed) n; split <;> omega

theorem rel_pad {ρ : Map} {H : List Blk} {w : World} (h : Rel ρ H w) (m : Nat) : Rel ρ (H ++ List.replicate m .dead) w := by
  have get : ∀ i L b, ρ i = some L → (H ++ List.replicate m .dead)[i]? = some b → H[i]? = some b := fun i L b e hb => by
    rwa [List.getElem?_append_left (h.dom i L e)] at hb
  refine ⟨fun i L e => ?_, fun i L b e hb => h.has i L b e (get i L b e hb), fun i j L M b d hij e1 e2 h1 h2 ho hl => h.sep i j L M b d hij e1 e2 (get i L b e1 h1) (get j M d e2 h2) ho hl⟩
  have := h.dom i L e
  simp; omega
theorem stp_pad {n : Nat} {ρ0 ρ : Map} {H0 H : List Blk} {w0 w : World} (h : Stp n ρ0 H0 w0 ρ H w) (m : Nat) : Stp n ρ0 H0 w0 ρ (H ++ List.replicate m .dead) w :=
  ⟨h.ext, h.os, h.tape, h.output, h.size, h.frame, fun i L b e hb ho => by
    by_cases hi : i < H.length
    · rw [List.getElem?_append_left hi] at hb
      exact h.own i L b e hb ho
    · rw [List.getElem?_append_right (by omega), List.getElem?_replicate] at hb
      split at hb
      · cases hb; exact ho.elim
      · cases hb⟩
/-- Two heaps that agree where something is known. -/
theorem rel_swap {ρ : Map} {F G : List Blk} {w : World} (h : Rel ρ F w) (hl : F.length = G.length) (he : ∀ i L, ρ i = some L → F[i]? = G[i]?) : Rel ρ G w :=
  ⟨fun i L e => by rw [← hl]; exact h.dom i L e, fun i L b e hb => h.has i L b e (by rw [he i L e]; exact hb), fun i j L M b d hij e1 e2 h1 h2 ho hlv => h.sep i j L M b d hij e1 e2 (by rw [he i L e1]; exact h1) (by rw [he j M e2]; exact h2) ho hlv⟩
theorem stp_swap {n : Nat} {ρ0 ρ : Map} {H0 F G : List Blk} {w0 w : World} (h : Stp n ρ0 H0 w0 ρ F w) (he : ∀ i L, ρ i = some L → F[i]? = G[i]?) : Stp n ρ0 H0 w0 ρ G w :=
  { h with own := fun i L b e hb ho => h.own i L b e (by rw [he i L e]; exact hb) ho }

section
variable {P : Program} {tab : TypeId → Option TI} {N : Nat} {ops : Array Oper} {ups : List (Nat × Nat)} {tT : Nat → Nat → AV} {tH : Nat → List Blk} {tv : Nat → AV} {tf : Nat → Foot}
  {ρ0 : Map} {H0 : List Blk} {w0 : World} {ρs : Map}

theorem wpAny_inv (R : TRun P tab N ops ups tT tH tv tf) {as : Act} {ws : World} (hss : Slots ρs N (tT 0) as) (hrs : Rel ρs (tH 0) ws) (hH0 : H0.length ≤ (tH 0).length) {Q : Exit → Act → World → Prop}
    (hQ : ∀ listed a w ρ F, DInv ops N tT tH tv tf ρ0 H0 w0 ρs listed a w ρ F → (∀ k, k < ops.size → listed.getD k false = true) → Q .normal a w) :
    ∀ (fuel : Nat) (listed : Array Bool) (a : Act) (w : World) (ρ : Map) (F : List Blk), DInv ops N tT tH tv tf ρ0 H0 w0 ρs listed a w ρ F → unl listed ops.size ≤ fuel → wpAny P .any ops Q fuel listed a w := by
  have sameD : ∀ {listed : Array Bool} {i : Nat}, listed.size = ops.size → i < ops.size → listed.getD i true = listed.getD i false := fun {listed i} hs hi => by
    rw [Array.getD_eq_getD_getElem?, Array.getD_eq_getD_getElem?, Array.getElem?_eq_getElem (by omega)]; rfl
  have none_ready : ∀ {listed : Array Bool}, listed.size = ops.size → Region.ready .any ops listed = [] → ∀ k, k < ops.size → listed.getD k false = true := by
    intro listed hsz hr k
    induction k using Nat.strongRecOn with
    | _ k ih =>
      intro hk
      cases hl : listed.getD k false with
      | true => rfl
      | false =>
        exfalso
        have ho : ops[k]? = some ops[k] := Array.getElem?_eq_getElem hk
        have : k ∈ Region.ready .any ops listed := by
          simp only [Region.ready, List.mem_filter, List.mem_range]
          refine ⟨hk, ?_⟩
          rw [sameD hsz hk, hl, ho]
          simp only [Bool.not_false, Option.map_some, Option.getD_some, Bool.true_and, Array.all_eq_true_iff_forall_mem]
          intro e he
          cases hb : Region.binds .any e with
          | false => rfl
          | true =>
            have hlt := R.stat.edges k _ e ho (by simpa using he) hb
            rw [ih e.on hlt (by omega)]; rfl
        rw [hr] at this; cases this
  intro fuel
  induction fuel with
  | zero =>
    intro listed a w ρ F D hu
    have hall := unl_zero (n := ops.size) (by omega : unl listed ops.size = 0)
    refine ⟨?_, hQ _ _ _ _ _ D hall⟩
    apply List.eq_nil_iff_forall_not_mem.2
    intro k hk
    simp only [Region.ready, List.mem_filter, List.mem_range, Bool.and_eq_true, Bool.not_eq_true'] at hk
    have := hall k hk.1
    rw [← sameD D.size hk.1, hk.2.1] at this; cases this
  | succ fuel ih =>
    intro listed a w ρ F D hu
    refine ⟨fun hr => hQ _ _ _ _ _ D (none_ready D.size hr), fun k hk => ?_⟩
    simp only [Region.ready, List.mem_filter, List.mem_range, Bool.and_eq_true, Bool.not_eq_true'] at hk
    obtain ⟨hks, hl, hed⟩ := hk
    rw [sameD D.size hks] at hl
    have ho : ops[k]? = some ops[k] := Array.getElem?_eq_getElem hks
    rw [ho] at hed
    simp only [Option.map_some, Option.getD_some, Array.all_eq_true_iff_forall_mem] at hed
    refine D.step R hss hrs hH0 ho hl (fun o e ho' he hb => ?_) fun a' w' ρ' F' D' => ih _ _ _ _ _ D' ?_
    · rw [ho] at ho'; cases ho'
      have := hed e (by simpa using he)
      simpa [hb] using this
    · have := (unl_set (n := ops.size) (by rw [D.size]; exact hks) hl).1 hks
      omega

/-- THE LAW OF A REGION WHOSE ORDER IS DRAWN: the walk in the order of the text serves every order. -/
theorem awp_draw {T : Nat → AV} {H : List Blk} (ht : TabOk P tab) (hm : P.follows .mixedOrders = true) {id : Nat} (ups : List (Nat × Nat)) (hok : drawOk ops ups = true) {Q : Exit → (Nat → AV) → List Blk → Prop}
    (h : opsD P tab (ops.toList.map (·.dst)) ops.toList [] (fun fs T H => upsOk fs ups ∧ Q .normal T H) T H) : AWP P N H0 (.region id ops true) Q T H := by
  intro hf ρ0 w0 hr0 ρ a w hs
  obtain ⟨tT, tH, tv, tf, e1, e2, e3, e4, e5⟩ := opsD_run _ _ _ _ h
  simp only [List.nil_append, Array.length_toList] at e4 e5
  have R : TRun P tab N ops ups tT tH tv tf := ⟨ht, hf, stat_of hok, fun k o ho => (e3 k o (by simpa using ho)).1, fun k o ho => (e3 k o (by simpa using ho)).2, fun i j hij hb => by
    obtain ⟨f, g, q1, q2, q3⟩ := upsOk_mem e4 i j hij
    rw [List.getElem?_map, List.getElem?_range hb.1] at q1
    rw [List.getElem?_map, List.getElem?_range hb.2] at q2
    cases q1; cases q2; exact q3⟩
  have hss : Slots ρ N (tT 0) a := by rw [e1]; exact hs.slots
  have hrs : Rel ρ (tH 0) w := by rw [e2]; exact hs.rel
  have hlen : (tH 0).length ≤ (tH ops.size).length := R.lenle (by omega) (Nat.le_refl _)
  refine wp_region_any hm (wpAny_inv (ρ0 := ρ0) (H0 := H0) (w0 := w0) (ρs := ρ) R hss hrs (by rw [e2]; exact hs.len) (fun listed a' w' ρ' F D hall => ?_) ops.size (Array.replicate ops.size false) a _ ρ (tH 0 ++ List.replicate ((tH ops.size).length - (tH 0).length) .dead) ?_ (unl_le _))
  · have hag : ∀ i L, ρ' i = some L → F[i]? = (tH ops.size)[i]? := fun i L hL => by
      have hi := D.rel.dom i L hL
      exact D.agr i L hL ops.size (Nat.le_refl _) (by rw [← D.flen]; exact hi) (fun k hk _ => hall k hk) (fun k h1 h2 _ => by omega)
    refine ⟨ρ', tT ops.size, tH ops.size, ⟨D.dfr, ⟨D.asz, fun s hs' => ?_⟩, rel_swap D.rel D.flen hag, Nat.le_trans (by rw [← e2] at hs; exact hs.len) hlen, stp_swap D.stp hag⟩, e5⟩
    rcases R.slot s ops.size (Nat.le_refl _) with ⟨j, o, h1, h2, h3, h4⟩ | ⟨h1, h2⟩
    · rw [h4]; exact D.done s hs' j o h2 (hall j h1) h3
    · rw [h2]; exact D.rest s hs' fun k o ho _ => h1 k o (Array.getElem?_eq_some_iff.1 ho).1 ho
  · have nolist : ∀ k, (Array.replicate ops.size false).getD k false = false := fun k => by
      rw [Array.getD_eq_getD_getElem?, Array.getElem?_replicate]; split <;> rfl
    have hst : Stp H0.length ρ0 H0 w0 ρ (tH 0) { w with drawn := w.drawn + 1 } := by
      rw [e2]; exact hs.stp.trans (Stp.drawn _ _ _ _ _)
    have hrd : Rel ρ (tH 0) { w with drawn := w.drawn + 1 } := hrs.heap rfl
    refine ⟨by simp, (fun i o e _ hi => by rw [nolist] at hi; cases hi), hs.dfr, hs.slots.1, rel_pad hrd _, by simp; omega, stp_pad hst _, fun _ _ => rfl, fun k hk _ i h1 h2 => ?_, fun i L hL t ht' hit hall _ => ?_, (fun k _ hl => by rw [nolist] at hl; cases hl), (fun s _ k o _ hl => by rw [nolist] at hl; cases hl), fun s hs' _ => hss.2 s hs'⟩
    · cases hq : ρ i with
      | none => rfl
      | some L =>
        have := hrs.dom i L hq
        have := R.lenle (k := 0) (t := k) (by omega) (by omega)
        omega
    · have hi0 := hrs.dom i L hL
      rw [List.getElem?_append_left hi0]
      exact (R.chain (k := 0) (t := t) (by omega) ht' hi0 fun j _ hj hw => by
        have := hall j hj hw
        rw [nolist] at this; cases this).symm
end
end Go.Proofs.Ytjjhogleiolngaa
