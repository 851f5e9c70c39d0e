/- The abstract machine: regions whose order is drawn, first part: a part of the heap steps on its own; operations see their operands alone. No program stands here. -/
import Derived.Test.YtjjhogleiolngaaA11
namespace Go.Proofs.Ytjjhogleiolngaa
open Go.RowKit

/-! ### A part of the heap -/
def restr (ρt ρ : Map) : Map := fun i => if (ρt i).isSome then ρ i else none
theorem restr_some {ρt ρ : Map} {i : Nat} {L : Loc} (h : restr ρt ρ i = some L) : ρ i = some L ∧ ∃ M, ρt i = some M := by
  unfold restr at h
  split at h
  · rename_i hs; exact ⟨h, Option.isSome_iff_exists.1 hs⟩
  · cases h
theorem restr_of {ρt ρ : Map} {i : Nat} {L M : Loc} (h : ρ i = some L) (ht : ρt i = some M) : restr ρt ρ i = some L := by simp [restr, ht, h]
theorem restr_le (ρt ρ : Map) : (restr ρt ρ).le ρ := fun _ _ h => (restr_some h).1
theorem relS_restr {ρt ρ : Map} {x : Sc} {v v' : Value} (h : relS ρ x v) (ht : relS ρt x v') : relS (restr ρt ρ) x v := by
  cases x with
  | ptr => obtain ⟨L, e, hv⟩ := h; obtain ⟨M, e', _⟩ := ht; exact ⟨L, restr_of e e', hv⟩
  | sl => obtain ⟨L, a, c, e, hv⟩ := h; obtain ⟨M, _, _, e', _⟩ := ht; exact ⟨L, a, c, restr_of e e', hv⟩
  | mp => obtain ⟨L, e, hv⟩ := h; obtain ⟨M, e', _⟩ := ht; exact ⟨L, restr_of e e', hv⟩
  | fn =>
    obtain ⟨vs, e, hs, hv⟩ := h
    obtain ⟨us, _, _, hu⟩ := ht
    exact ⟨vs, e, hs, fun j p hp => by obtain ⟨L, e1, e2⟩ := hv j p hp; obtain ⟨M, e3, _⟩ := hu j p hp; exact ⟨L, restr_of e1 e3, e2⟩⟩
  | _ => exact h
theorem relL_restr {ρt ρ : Map} {cs : List Sc} {vs us : Array Value} (h : relL ρ cs vs) (ht : relL ρt cs us) : relL (restr ρt ρ) cs vs :=
  ⟨h.1, fun j x hj => by obtain ⟨u, e, r⟩ := h.2 j x hj; obtain ⟨_, _, r'⟩ := ht.2 j x hj; exact ⟨u, e, relS_restr r r'⟩⟩
theorem relC_restr {ρt ρ : Map} {x : AC} {v v' : Value} (h : relC ρ x v) (ht : relC ρt x v') : relC (restr ρt ρ) x v := by
  cases x with
  | sc => exact relS_restr h ht
  | agg => obtain ⟨vs, e, r⟩ := h; obtain ⟨us, _, r'⟩ := ht; exact ⟨vs, e, relL_restr r r'⟩
  | top => trivial
theorem relV_restr {ρt ρ : Map} {x : AV} {v v' : Value} (h : relV ρ x v) (ht : relV ρt x v') : relV (restr ρt ρ) x v := by
  cases x with
  | c => exact relC_restr h ht
  | tup => obtain ⟨vs, e, hs, r⟩ := h; obtain ⟨us, _, _, r'⟩ := ht; exact ⟨vs, e, hs, fun j x hj => by obtain ⟨u, e, q⟩ := r j x hj; obtain ⟨_, _, q'⟩ := r' j x hj; exact ⟨u, e, relC_restr q q'⟩⟩
  | grd => exact ⟨fun t => relC_restr (h.1 t) (ht.1 t), h.2⟩
theorem cellsAt_restr {ρt ρ : Map} {c c' : Array Value} {o o' : Nat} {cs : List Sc} (h : cellsAt ρ c o cs) (ht : cellsAt ρt c' o' cs) : cellsAt (restr ρt ρ) c o cs := fun j x hj => by
  obtain ⟨u, e, r⟩ := h j x hj; obtain ⟨_, _, r'⟩ := ht j x hj; exact ⟨u, e, relS_restr r r'⟩
theorem holds_restr {ρt ρ : Map} {w wt : World} {L M : Loc} {b : Blk} (h : holds ρ w L b) (ht : holds ρt wt M b) : holds (restr ρt ρ) w L b := by
  cases b with
  | own cs => obtain ⟨h1, c, e, h2, h3, h4⟩ := h; obtain ⟨_, c', _, _, _, h4'⟩ := ht; exact ⟨h1, c, e, h2, h3, cellsAt_restr h4 h4'⟩
  | ro cs => obtain ⟨c, e, fr, h2, h4⟩ := h; obtain ⟨c', _, _, _, h4'⟩ := ht; exact ⟨c, e, fr, h2, cellsAt_restr h4 h4'⟩
  | mapB kk kv es => exact h
  | dead => trivial

def killL (K : Nat → Bool) (H : List Blk) : List Blk := H.mapIdx fun i b => if K i then .dead else b
theorem killL_length (K : Nat → Bool) (H : List Blk) : (killL K H).length = H.length := by simp [killL]
theorem killL_get {K : Nat → Bool} {H : List Blk} {i : Nat} {b : Blk} (h : (killL K H)[i]? = some b) : (K i = true ∧ b = .dead) ∨ (K i = false ∧ H[i]? = some b) := by
  simp only [killL, List.getElem?_mapIdx, Option.map_eq_some_iff] at h
  obtain ⟨c, hc, rfl⟩ := h
  cases hk : K i with
  | true => exact .inl ⟨rfl, by simp⟩
  | false => exact .inr ⟨rfl, by simpa using hc⟩
theorem killL_of {K : Nat → Bool} {H : List Blk} {i : Nat} (h : K i = false) : (killL K H)[i]? = H[i]? := by
  simp only [killL, List.getElem?_mapIdx]
  cases hc : H[i]? <;> simp [h]

/-- The part of a state that an elder heap Hk speaks of: a state of Hk, some blocks of which are dead. -/
theorem part_rel {ρt ρ : Map} {Hk F : List Blk} {wt w : World} (ht : Rel ρt Hk wt) (hr : Rel ρ F w) (K : Nat → Bool) (hag : ∀ i L, ρ i = some L → (ρt i).isSome = true → K i = false → F[i]? = Hk[i]?) : Rel (restr ρt ρ) (killL K Hk) w := by
  have key : ∀ i L b, restr ρt ρ i = some L → (killL K Hk)[i]? = some b → b.live → K i = false ∧ F[i]? = some b ∧ Hk[i]? = some b := fun i L b e hb hl => by
    obtain ⟨e1, M, e2⟩ := restr_some e
    rcases killL_get hb with ⟨_, rfl⟩ | ⟨hk, hb'⟩
    · exact hl.elim
    · exact ⟨hk, by rw [hag i L e1 (by rw [e2]; rfl) hk]; exact hb', hb'⟩
  refine ⟨fun i L e => ?_, fun i L b e hb => ?_, fun i j L M b d hij e1 e2 h1 h2 ho hl => ?_⟩
  · obtain ⟨_, M, e2⟩ := restr_some e
    rw [killL_length]; exact ht.dom i M e2
  · by_cases hl : b.live
    · obtain ⟨_, hF, hH⟩ := key i L b e hb hl
      obtain ⟨e1, M, e2⟩ := restr_some e
      exact holds_restr (hr.has i L b e1 hF) (ht.has i M b e2 hH)
    · cases b <;> first | trivial | exact (hl trivial).elim
  · obtain ⟨_, hF, _⟩ := key i L b e1 h1 (Blk.live_of_own ho)
    obtain ⟨_, hG, _⟩ := key j M d e2 h2 hl
    exact hr.sep i j L M b d hij (restr_some e1).1 (restr_some e2).1 hF hG ho hl

/-- The part has made its step: the whole has. -/
theorem part_step {ρt ρ ρ' : Map} {Hk Hk1 F : List Blk} {wt w w' : World} (ht : Rel ρt Hk wt) (hr : Rel ρ F w) (K : Nat → Bool) (hag : ∀ i L, ρ i = some L → (ρt i).isSome = true → K i = false → F[i]? = Hk[i]?)
    (hK : ∀ i, Hk.length ≤ i → K i = false) (hFl : Hk1.length ≤ F.length) (W : List Nat) (hW : ∀ i, i < Hk.length → i ∉ W → Hk1[i]? = Hk[i]?) (hWK : ∀ i, i ∈ W → K i = false ∧ (ρt i).isSome = true)
    (hnew : ∀ i, Hk.length ≤ i → i < Hk1.length → ρ i = none) (hro : ∀ (i : Nat) (b : Blk), Hk.length ≤ i → Hk1[i]? = some b → b.live → b.isOwn) (hWo : ∀ (i : Nat) (b : Blk), i ∈ W → Hk1[i]? = some b → b.live → b.isOwn ∨ Hk[i]? = some b)
    (h1 : Rel ρ' (killL K Hk1) w') (h2 : Stp Hk.length (restr ρt ρ) (killL K Hk) w ρ' (killL K Hk1) w')
    (ρ2 : Map) (hρ2 : ρ2 = fun i => if Hk.length ≤ i ∧ i < Hk1.length then ρ' i else ρ i) (F2 : List Blk) (hF2l : F2.length = F.length)
    (hF2 : ∀ i, F2[i]? = if i ∈ W ∨ (Hk.length ≤ i ∧ i < Hk1.length) then Hk1[i]? else F[i]?) (n0 : Nat) (hn0 : n0 ≤ Hk.length) :
    ρ'.le ρ2 ∧ Rel ρ2 F2 w' ∧ Stp n0 ρ F w ρ2 F2 w' := by
  have hr' := part_rel ht hr K hag
  have le1 : ρ'.le ρ2 := fun i L e => by
    have hd := h1.dom i L e
    rw [killL_length] at hd
    rw [hρ2]
    simp only
    by_cases hi : Hk.length ≤ i
    · rw [if_pos ⟨hi, hd⟩]; exact e
    · rw [if_neg (by omega)]
      have := h2.ext i (by omega)
      rw [this] at e
      exact (restr_some e).1
  -- a block of the part, or of the rest
  have cases_ : ∀ i L b, ρ2 i = some L → F2[i]? = some b → b.live → (ρ' i = some L ∧ (killL K Hk1)[i]? = some b) ∨ (¬ (Hk.length ≤ i ∧ i < Hk1.length) ∧ i ∉ W ∧ ρ i = some L ∧ F[i]? = some b ∧ ((ρt i).isSome = false ∨ K i = true)) := fun i L b e hb hl => by
    rw [hρ2] at e
    simp only at e
    rw [hF2] at hb
    by_cases hn : Hk.length ≤ i ∧ i < Hk1.length
    · rw [if_pos hn] at e
      rw [if_pos (.inr hn)] at hb
      exact .inl ⟨e, by rw [killL_of (hK i hn.1)]; exact hb⟩
    · rw [if_neg hn] at e
      by_cases hw : i ∈ W
      · rw [if_pos (.inl hw)] at hb
        obtain ⟨k1, k2⟩ := hWK i hw
        have hlt : i < Hk.length := by
          obtain ⟨M, hM⟩ := Option.isSome_iff_exists.1 k2
          exact ht.dom i M hM
        exact .inl ⟨by rw [h2.ext i hlt]; obtain ⟨M, hM⟩ := Option.isSome_iff_exists.1 k2; exact restr_of e hM, by rw [killL_of k1]; exact hb⟩
      · rw [if_neg (by rintro (h | h); exact hw h; exact hn h)] at hb
        by_cases hs : (ρt i).isSome = true
        · by_cases hk : K i = true
          · exact .inr ⟨hn, hw, e, hb, .inr hk⟩
          · have hk : K i = false := by simpa using hk
            have hlt : i < Hk.length := by
              obtain ⟨M, hM⟩ := Option.isSome_iff_exists.1 hs
              exact ht.dom i M hM
            refine .inl ⟨by rw [h2.ext i hlt]; obtain ⟨M, hM⟩ := Option.isSome_iff_exists.1 hs; exact restr_of e hM, ?_⟩
            rw [killL_of hk, hW i hlt hw, ← hag i L e hs hk]; exact hb
        · exact .inr ⟨hn, hw, e, hb, .inl (by simpa using hs)⟩
  -- the rest's blocks are none of the part's own
  have rest_apart : ∀ i L b, ¬ (Hk.length ≤ i ∧ i < Hk1.length) → ρ i = some L → F[i]? = some b → b.live → ((ρt i).isSome = false ∨ K i = true) → ∀ j M d, restr ρt ρ j = some M → (killL K Hk)[j]? = some d → d.isOwn → M.b ≠ L.b := fun i L b _ e hb hl hc j M d e2 h2' ho => by
    obtain ⟨q1, M', q2⟩ := restr_some e2
    rcases killL_get h2' with ⟨_, rfl⟩ | ⟨hk, hd⟩
    · exact ho.elim
    · have hFj : F[j]? = some d := by rw [hag j M q1 (by rw [q2]; rfl) hk]; exact hd
      have hij : j ≠ i := by
        rintro rfl
        rcases hc with hc | hc
        · rw [q2] at hc; cases hc
        · rw [hc] at hk; cases hk
      exact hr.sep j i M L d b hij q1 e hFj hb ho hl
  refine ⟨le1, ⟨fun i L e => ?_, fun i L b e hb => ?_, fun i j L M b d hij e1 e2 hb1 hb2 ho hl => ?_⟩, ?_⟩
  · rw [hF2l]
    rw [hρ2] at e
    simp only at e
    split at e
    · omega
    · exact hr.dom i L e
  · by_cases hl : b.live
    · rcases cases_ i L b e hb hl with ⟨q1, q2⟩ | ⟨q0, _, q1, q2, q3⟩
      · exact holds_le le1 (h1.has i L b q1 q2)
      · have hh := hr.has i L b q1 q2
        have hlt := hr.lt q1 q2 hl
        have hle : ρ.le ρ2 := fun i L e => by
          rw [hρ2]; simp only
          split
          · rename_i hc; rw [hnew i hc.1 hc.2] at e; cases e
          · exact e
        refine holds_le hle (holds_heap (fun _ => h2.frame L.b hlt fun j M d e2 h2' ho => ?_) hh)
        exact rest_apart i L b q0 q1 q2 hl q3 j M d e2 h2' ho
    · cases b <;> first | trivial | exact (hl trivial).elim
  · rcases cases_ i L b e1 hb1 (Blk.live_of_own ho) with ⟨p1, p2⟩ | ⟨p0, _, p1, p2, p3⟩ <;> rcases cases_ j M d e2 hb2 hl with ⟨q1, q2⟩ | ⟨q0, _, q1, q2, q3⟩
    · exact h1.sep i j L M b d hij p1 q1 p2 q2 ho hl
    · rcases h2.own i L b p1 p2 ho with ⟨j', M', d', r1, r2, r3, r4⟩ | hge
      · rw [← r4]; exact rest_apart j M d q0 q1 q2 hl q3 j' M' d' r1 r2 r3
      · have := hr.lt q1 q2 hl; omega
    · -- the one of the part is live: own, or as before
      by_cases hdo : d.isOwn
      · rcases h2.own j M d q1 q2 hdo with ⟨j', M', d', r1, r2, r3, r4⟩ | hge
        · rw [← r4]; exact (rest_apart i L b p0 p1 p2 (Blk.live_of_own ho) p3 j' M' d' r1 r2 r3).symm
        · have := hr.lt p1 p2 (Blk.live_of_own ho); omega
      · have hjl : j < Hk.length := by
          apply Decidable.byContradiction
          intro hge
          have hK1 : Hk1[j]? = some d := by rcases killL_get q2 with ⟨_, rfl⟩ | ⟨_, h⟩; exact hl.elim; exact h
          exact hdo (hro j d (by omega) hK1 hl)
        have hjk : K j = false ∧ Hk1[j]? = some d := by rcases killL_get q2 with ⟨_, rfl⟩ | h; exact hl.elim; exact h
        have hjH : Hk[j]? = some d := by
          by_cases hw : j ∈ W
          · exact (hWo j d hw hjk.2 hl).resolve_left hdo
          · rw [← hW j hjl hw]; exact hjk.2
        have hj0 := h2.ext j hjl
        rw [q1] at hj0
        obtain ⟨z1, z2, z3⟩ := restr_some hj0.symm
        have hFj : F[j]? = some d := by rw [hag j M z1 (by rw [z3]; rfl) hjk.1]; exact hjH
        exact hr.sep i j L M b d hij p1 z1 p2 hFj ho hl
    · exact hr.sep i j L M b d hij p1 q1 p2 q2 ho hl
  · refine ⟨fun i hi => ?_, h2.os, h2.tape, h2.output, h2.size, fun b hb hn => h2.frame b hb fun i L d e hd ho => ?_, fun i L b e hb ho => ?_⟩
    · rw [hρ2]; simp only; rw [if_neg (by omega)]
    · obtain ⟨q1, M, q2⟩ := restr_some e
      rcases killL_get hd with ⟨_, rfl⟩ | ⟨hk, hd'⟩
      · exact ho.elim
      · exact hn i L d q1 (by rw [hag i L q1 (by rw [q2]; rfl) hk]; exact hd') ho
    · rcases cases_ i L b e hb (Blk.live_of_own ho) with ⟨p1, p2⟩ | ⟨p0, _, p1, p2, p3⟩
      · rcases h2.own i L b p1 p2 ho with ⟨j', M', d', r1, r2, r3, r4⟩ | hge
        · obtain ⟨z1, z2, z3⟩ := restr_some r1
          rcases killL_get r2 with ⟨_, rfl⟩ | ⟨hk, hd'⟩
          · exact r3.elim
          · exact .inl ⟨j', M', d', z1, by rw [hag j' M' z1 (by rw [z3]; rfl) hk]; exact hd', r3, r4⟩
        · exact .inr hge
      · exact .inl ⟨i, L, b, p1, p2, ho, rfl⟩

/-! ### Operations see their operands alone -/
section
variable {tab : TypeId → Option TI} {T T' : Nat → AV} {H F : List Blk}
theorem ints_congr : ∀ {xs : List Operand}, (∀ x ∈ xs, ev T x = ev T' x) → ints T xs = ints T' xs
  | [], _ => rfl
  | x :: xs, h => by
    have h1 := h x (by simp)
    have h2 := ints_congr (xs := xs) fun y hy => h y (by simp [hy])
    simp only [ints, h1, h2]
theorem caps_congr : ∀ {xs : List Operand}, (∀ x ∈ xs, ev T x = ev T' x) → caps T xs = caps T' xs
  | [], _ => rfl
  | x :: xs, h => by
    have h1 := h x (by simp)
    have h2 := caps_congr (xs := xs) fun y hy => h y (by simp [hy])
    simp only [caps, h1, h2]
theorem args_congr : ∀ {xs : List Operand}, (∀ x ∈ xs, ev T x = ev T' x) → argsC T xs = argsC T' xs
  | [], _ => rfl
  | x :: xs, h => by
    have h1 := h x (by simp)
    have h2 := args_congr (xs := xs) fun y hy => h y (by simp [hy])
    simp only [argsC, h1, h2]
theorem parts_congr : ∀ {xs : List (Nat × Operand)}, (∀ x ∈ xs.map (·.2), ev T x = ev T' x) → partsC T xs = partsC T' xs
  | [], _ => rfl
  | (i, x) :: xs, h => by
    have h1 := h x (by simp)
    have h2 := parts_congr (xs := xs) fun y hy => h y (by simp at hy ⊢; exact .inr hy)
    simp only [partsC, h1, h2]
/-- The blocks that an operation reads. -/
def rdC : AC → List Nat
  | .sc (.ptr id _) => [id]
  | .sc (.sl id _ _ _ _) => [id]
  | _ => []
def rdOf (T : Nat → AV) : Op → List Nat
  | .load _ x => rdC (ev T x).ac
  | .convert _ _ x => rdC (ev T x).ac
  | .slice _ x _ _ _ => rdC (ev T x).ac
  | .store _ x _ => rdC (ev T x).ac
  | .call { callee := .builtin .append, args, .. } => args.toList.flatMap fun x => rdC (ev T x).ac
  | .call { callee := .builtin .copy, args, .. } => args.toList.flatMap fun x => rdC (ev T x).ac
  | .call { callee := .builtin .clear, args, .. } => args.toList.flatMap fun x => rdC (ev T x).ac
  | _ => []
/-- The blocks that it writes. -/
def wrOf (T : Nat → AV) : Op → List Nat
  | .store _ x _ => rdC (ev T x).ac
  | .call { callee := .builtin .append, args, .. } => match args.toList with | x :: _ => rdC (ev T x).ac | [] => []
  | .call { callee := .builtin .copy, args, .. } => match args.toList with | x :: _ => rdC (ev T x).ac | [] => []
  | .call { callee := .builtin .clear, args, .. } => match args.toList with | x :: _ => rdC (ev T x).ac | [] => []
  | _ => []
end
end Go.Proofs.Ytjjhogleiolngaa
