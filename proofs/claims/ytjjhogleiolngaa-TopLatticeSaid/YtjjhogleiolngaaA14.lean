/- The abstract machine: regions whose order is drawn, second part: what an operation looks at. No program stands here. -/
import Derived.Test.YtjjhogleiolngaaA13
namespace Go.Proofs.Ytjjhogleiolngaa
open Go.RowKit

section
variable {tab : TypeId → Option TI} {T T' : Nat → AV} {H F : List Blk}
theorem bnd_congr {d : Int} {o : Option Operand} (h : ∀ x, o = some x → ev T x = ev T' x) : bnd T d o = bnd T' d o := by
  cases o with
  | none => rfl
  | some x => simp only [bnd, h x rfl]

theorem opQ_T {op : Op} (h : ∀ x ∈ op.operands.toList, ev T x = ev T' x) : opQ tab T H op = opQ tab T' H op := by
  cases op with
  | move x => have h1 := h x (by simp [Op.operands]); simp only [opQ, h1]
  | assign x => have h1 := h x (by simp [Op.operands]); simp only [opQ, h1]
  | pick c a b =>
    have h1 := h c (by simp [Op.operands]); have h2 := h a (by simp [Op.operands]); have h3 := h b (by simp [Op.operands])
    simp only [opQ, h1, h2, h3]
  | binOp op t x y u => have h1 := h x (by simp [Op.operands]); have h2 := h y (by simp [Op.operands]); simp only [opQ, h1, h2]
  | unOp op t x => have h1 := h x (by simp [Op.operands]); simp only [opQ, h1]
  | fieldAddr s x f => have h1 := h x (by simp [Op.operands]); simp only [opQ, h1]
  | indexAddr t x i => have h1 := h x (by simp [Op.operands]); have h2 := h i (by simp [Op.operands]); simp only [opQ, h1, h2]
  | load t x => have h1 := h x (by simp [Op.operands]); simp only [opQ, h1]
  | index t x i => have h1 := h x (by simp [Op.operands]); have h2 := h i (by simp [Op.operands]); simp only [opQ, h1, h2]
  | nilCheck x => have h1 := h x (by simp [Op.operands]); simp only [opQ, h1]
  | build t ps => have h1 := parts_congr (T := T) (T' := T') (xs := ps.toList) fun x hx => h x (by simpa [Op.operands] using hx); simp only [opQ, h1]
  | extract x j => have h1 := h x (by simp [Op.operands]); simp only [opQ, h1]
  | convert s d x => have h1 := h x (by simp [Op.operands]); simp only [opQ, h1]
  | slice t x lo hi mx =>
    have h1 := h x (by simp [Op.operands])
    have h2 := bnd_congr (T := T) (T' := T') (d := 0) (o := lo) fun y e => h y (by simp [Op.operands, e])
    have h3 := bnd_congr (T := T) (T' := T') (d := 0) (o := hi) fun y e => h y (by simp [Op.operands, e])
    have h4 : ∀ m, mx = some m → bnd T 0 (some m) = bnd T' 0 (some m) := fun m e => bnd_congr (T := T) (T' := T') (d := 0) (o := some m) fun y e' => h y (by cases e'; simp [Op.operands, e])
    simp only [opQ, h1, h2, h3]
    cases tab t with
    | none => rfl
    | some i =>
      cases bnd T' 0 lo with
      | none => rfl
      | some a =>
        cases bnd T' 0 hi with
        | none => rfl
        | some b =>
          cases mx with
          | none => rfl
          | some m => simp only [h4 m rfl]
  | makeFunc fn first cs =>
    have h1 := caps_congr (T := T) (T' := T') (xs := cs.toList) fun x hx => h x (by simp [Op.operands]; exact .inr (by simpa using hx))
    cases fn <;> first | rfl | simp only [opQ, h1]
  | call c =>
    obtain ⟨cal, args, ats⟩ := c
    cases cal with
    | value f => rfl
    | invoke r m => rfl
    | builtin b =>
      have ha : ∀ x ∈ args.toList, ev T x = ev T' x := fun x hx => h x (by simpa [Op.operands, Call.operands] using hx)
      have h1 := ints_congr ha
      cases b with
      | len =>
        simp only [opQ]
        split
        · rename_i x t hx _; have h2 := ha x (by rw [hx]; simp); simp only [h2]
        · rfl
      | cap =>
        simp only [opQ]
        split
        · rename_i x t hx _; have h2 := ha x (by rw [hx]; simp); simp only [h2]
        · rfl
      | max => simp only [opQ, h1]
      | min => simp only [opQ, h1]
      | _ => rfl
  | _ => rfl
theorem opM_T {op : Op} (h : ∀ x ∈ op.operands.toList, ev T x = ev T' x) : opM tab T H op = opM tab T' H op := by
  cases op with
  | box t x => have h1 := h x (by simp [Op.operands]); simp only [opM, h1]
  | buildSlice t n ps => have h1 := parts_congr (T := T) (T' := T') (xs := ps.toList) fun x hx => h x (by simpa [Op.operands] using hx); simp only [opM, h1]
  | makeSlice t l c => have h1 := h l (by simp [Op.operands]); have h2 := h c (by simp [Op.operands]); simp only [opM, h1, h2]
  | store t x y => have h1 := h x (by simp [Op.operands]); have h2 := h y (by simp [Op.operands]); simp only [opM, h1, h2]
  | call c =>
    obtain ⟨cal, args, ats⟩ := c
    cases cal with
    | value f => rfl
    | invoke r m => rfl
    | builtin b =>
      have ha : ∀ x ∈ args.toList, ev T x = ev T' x := fun x hx => h x (by simpa [Op.operands, Call.operands] using hx)
      cases b with
      | append =>
        simp only [opM]
        split
        · rename_i s x t tx hx _; have h2 := ha s (by rw [hx]; simp); have h3 := ha x (by rw [hx]; simp); simp only [h2, h3]
        · rfl
      | copy =>
        simp only [opM]
        split
        · rename_i s x t tx hx _; have h2 := ha s (by rw [hx]; simp); have h3 := ha x (by rw [hx]; simp); simp only [h2, h3]
        · rfl
      | clear =>
        simp only [opM]
        split
        · rename_i s t hx _; have h2 := ha s (by rw [hx]; simp); simp only [h2]
        · rfl
      | _ => rfl
  | _ => rfl
theorem rdOf_T {op : Op} (h : ∀ x ∈ op.operands.toList, ev T x = ev T' x) : rdOf T op = rdOf T' op := by
  cases op with
  | load t x => have h1 := h x (by simp [Op.operands]); simp only [rdOf, h1]
  | convert s d x => have h1 := h x (by simp [Op.operands]); simp only [rdOf, h1]
  | slice t x lo hi mx => have h1 := h x (by simp [Op.operands]); simp only [rdOf, h1]
  | store t x y => have h1 := h x (by simp [Op.operands]); simp only [rdOf, h1]
  | call c =>
    obtain ⟨cal, args, ats⟩ := c
    cases cal with
    | value f => rfl
    | invoke r m => rfl
    | builtin b =>
      have ha : ∀ x ∈ args.toList, ev T x = ev T' x := fun x hx => h x (by simpa [Op.operands, Call.operands] using hx)
      have hm : ∀ (l : List Operand), (∀ x ∈ l, ev T x = ev T' x) → (l.flatMap fun x => rdC (ev T x).ac) = l.flatMap fun x => rdC (ev T' x).ac := by
        intro l
        induction l with
        | nil => intro _; rfl
        | cons y l ih => intro hl; simp only [List.flatMap_cons, hl y (by simp), ih fun z hz => hl z (by simp [hz])]
      cases b <;> first | rfl | (simp only [rdOf]; exact hm _ ha)
  | _ => rfl

theorem sliceC_H {i : TI} {x : AC} {l h : Int} {hi : Bool} {m : Option Int} (hF : ∀ id ∈ rdC x, F[id]? = H[id]?) : sliceC tab F i x l h hi m = sliceC tab H i x l h hi m := by
  unfold sliceC
  split <;> first
    | rfl
    | (rename_i n e id off hk; rw [hF id (by simp [rdC])])
theorem opQ_H {op : Op} (h : ∀ id ∈ rdOf T op, F[id]? = H[id]?) : opQ tab T F op = opQ tab T H op := by
  cases op with
  | load t x =>
    simp only [rdOf] at h
    simp only [opQ]
    split
    · rename_i i id off hi hx
      rw [hx] at h
      rw [h id (by simp [rdC])]
    · rfl
  | convert s d x =>
    simp only [rdOf] at h
    simp only [opQ]
    split <;> first
      | rfl
      | (rename_i i j id off es len cap hi hj hx; rw [hx] at h; rw [h id (by simp [rdC])])
  | slice t x lo hi mx =>
    simp only [rdOf] at h
    have key : ∀ (i : TI) (l hh : Int) (b : Bool) (m : Option Int), sliceC tab F i (ev T x).ac l hh b m = sliceC tab H i (ev T x).ac l hh b m := fun i l hh b m => sliceC_H h
    simp only [opQ, key]
  | call c =>
    obtain ⟨cal, args, ats⟩ := c
    cases cal with
    | value f => rfl
    | invoke r m => rfl
    | builtin b => cases b <;> rfl
  | makeFunc fn first cs => cases fn <;> rfl
  | _ => rfl

theorem srcC_H {size : Nat} {i : TI} {x : AC} (hF : ∀ id ∈ rdC x, F[id]? = H[id]?) : srcC F size i x = srcC H size i x := by
  unfold srcC
  split <;> first
    | rfl
    | (rename_i e id off es len cap hk; rw [hF id (by simp [rdC])])

theorem killL_append {K : Nat → Bool} {H : List Blk} {b : Blk} (h : K H.length = false) : killL K (H ++ [b]) = killL K H ++ [b] := by
  simp [killL, List.mapIdx_append, h]
theorem killL_set {K : Nat → Bool} {H : List Blk} {id : Nat} {b : Blk} (h : K id = false) : killL K (H.set id b) = (killL K H).set id b := by
  apply List.ext_getElem?
  intro i
  simp only [killL, List.getElem?_mapIdx, List.getElem?_set, List.length_mapIdx]
  by_cases hi : id = i
  · subst hi
    simp only [if_true]
    by_cases hl : id < H.length
    · simp [hl, h]
    · simp [hl]
  · simp [hi]

theorem opM_kill {op : Op} {K : Nat → Bool} {p : Prop} {v : AC} {H' : List Blk} (hq : opM tab T H op = some (p, v, H')) (hr : ∀ id ∈ rdOf T op, K id = false) (hn : ∀ i, H.length ≤ i → K i = false) : opM tab T (killL K H) op = some (p, v, killL K H') := by
  have hl : (killL K H).length = H.length := killL_length K H
  have hG : ∀ id ∈ rdOf T op, (killL K H)[id]? = H[id]? := fun id hid => killL_of (hr id hid)
  have ap : ∀ b, killL K H ++ [b] = killL K (H ++ [b]) := fun b => (killL_append (hn _ (Nat.le_refl _))).symm
  have st : ∀ id b, K id = false → (killL K H).set id b = killL K (H.set id b) := fun id b h => (killL_set h).symm
  cases op with
  | alloc e =>
    simp only [opM] at hq ⊢
    split at hq
    · split at hq
      · simp only [Option.some.injEq, Prod.mk.injEq] at hq; obtain ⟨rfl, rfl, rfl⟩ := hq
        simp only [*]
      · cases hq
    · cases hq
  | box e x =>
    simp only [opM] at hq ⊢
    split at hq
    · simp only [Option.some.injEq, Prod.mk.injEq] at hq; obtain ⟨rfl, rfl, rfl⟩ := hq
      simp only [*]
    · cases hq
  | buildSlice t n ps =>
    simp only [opM, hl] at hq ⊢
    repeat' split at hq
    all_goals first
      | (cases hq; done)
      | (simp only [Option.some.injEq, Prod.mk.injEq] at hq; obtain ⟨rfl, rfl, rfl⟩ := hq; simp_all)
  | makeSlice t l c =>
    simp only [opM, hl] at hq ⊢
    repeat' split at hq
    all_goals first
      | (cases hq; done)
      | (simp only [Option.some.injEq, Prod.mk.injEq] at hq; obtain ⟨rfl, rfl, rfl⟩ := hq; simp_all)
  | store t x y =>
    simp only [opM, rdOf] at hq hr hG ⊢
    repeat' split at hq
    all_goals first
      | (cases hq; done)
      | skip
    rename_i i id off ys h1 h2 h3 _ cs h4
    simp only [Option.some.injEq, Prod.mk.injEq] at hq; obtain ⟨rfl, rfl, rfl⟩ := hq
    rw [h2] at hG hr
    rw [hG id (by simp [rdC]), h4]
    simp only [st id _ (hr id (by simp [rdC]))]
  | call c =>
    obtain ⟨cal, args, ats⟩ := c
    cases cal with
    | value f => simp [opM] at hq
    | invoke r m => simp [opM] at hq
    | builtin b =>
      cases b with
      | append =>
        simp only [opM, rdOf] at hq hr hG ⊢
        split at hq
        · rename_i s x t tx ha1 ha2
          rw [ha1] at hr hG
          simp only [List.flatMap_cons, List.flatMap_nil, List.append_nil, List.mem_append] at hr hG
          have hS : ∀ (sz : Nat) (ix : TI), srcC (killL K H) sz ix (ev T x).ac = srcC H sz ix (ev T x).ac := fun sz ix => srcC_H fun id hid => hG id (.inr hid)
          simp only [hl]
          split at hq
          · rename_i i ix hi hix
            split at hq
            · rename_i e hk
              split at hq
              · rename_i ie hie
                split at hq
                · split at hq
                  · simp only [Option.some.injEq, Prod.mk.injEq] at hq; obtain ⟨rfl, rfl, rfl⟩ := hq
                    simp only [ap]
                  · cases hq
                · rw [hS]
                  split at hq
                  · rename_i p' n xs hsrc
                    split at hq
                    · simp only [Option.some.injEq, Prod.mk.injEq] at hq; obtain ⟨rfl, rfl, rfl⟩ := hq
                      by_cases h0 : n = 0 <;> simp only [h0, if_true, if_false, ap]
                    · simp only [Option.some.injEq, Prod.mk.injEq] at hq; obtain ⟨rfl, rfl, rfl⟩ := hq
                      by_cases h0 : n = 0 <;> simp only [h0, if_true, if_false, ap]
                    · rename_i bid off es len cap hs
                      split at hq
                      · rename_i cs hd
                        have hk' : K bid = false := hr bid (.inl (by rw [hs]; simp [rdC]))
                        have hg : (killL K H)[bid]? = some (.own cs) := by rw [killL_of hk']; exact hd
                        split at hq
                        · rename_i hroom
                          simp only [Option.some.injEq, Prod.mk.injEq] at hq; obtain ⟨rfl, rfl, rfl⟩ := hq
                          simp only [hg, if_pos hroom, st bid _ hk']
                        · rename_i hroom
                          simp only [Option.some.injEq, Prod.mk.injEq] at hq; obtain ⟨rfl, rfl, rfl⟩ := hq
                          simp only [hg, if_neg hroom]
                          rw [st bid _ hk', killL_append (by simpa using hn _ (Nat.le_refl _))]
                      · cases hq
                    · cases hq
                  · cases hq
              · cases hq
            · cases hq
          · cases hq
        · cases hq
      | copy =>
        simp only [opM, rdOf] at hq hr hG ⊢
        split at hq
        · rename_i s x t tx ha1 ha2
          rw [ha1] at hr hG
          simp only [List.flatMap_cons, List.flatMap_nil, List.append_nil, List.mem_append] at hr hG
          have hS : ∀ (sz : Nat) (ix : TI), srcC (killL K H) sz ix (ev T x).ac = srcC H sz ix (ev T x).ac := fun sz ix => srcC_H fun id hid => hG id (.inr hid)
          split at hq
          · rename_i i ix hi hix
            split at hq
            · rename_i e hk
              split at hq
              · rename_i ie hie
                rw [hS]
                split at hq
                · rename_i p' n xs hsrc
                  split at hq
                  · simp only [Option.some.injEq, Prod.mk.injEq] at hq; obtain ⟨rfl, rfl, rfl⟩ := hq; rfl
                  · simp only [Option.some.injEq, Prod.mk.injEq] at hq; obtain ⟨rfl, rfl, rfl⟩ := hq; rfl
                  · rename_i bid off es len cap hs
                    split at hq
                    · rename_i cs hd
                      simp only [Option.some.injEq, Prod.mk.injEq] at hq; obtain ⟨rfl, rfl, rfl⟩ := hq
                      have hk' : K bid = false := hr bid (.inl (by rw [hs]; simp [rdC]))
                      have hg : (killL K H)[bid]? = some (.own cs) := by rw [killL_of hk']; exact hd
                      simp only [hg, st bid _ hk']
                    · cases hq
                  · cases hq
                · cases hq
              · cases hq
            · cases hq
          · cases hq
        · cases hq
      | clear =>
        simp only [opM, rdOf] at hq hr hG ⊢
        split at hq
        · rename_i s t ha1 ha2
          rw [ha1] at hr hG
          simp only [List.flatMap_cons, List.flatMap_nil, List.append_nil] at hr hG
          split at hq
          · rename_i i hi
            split at hq
            · rename_i e hk
              split at hq
              · rename_i ie hie
                split at hq
                · simp only [Option.some.injEq, Prod.mk.injEq] at hq; obtain ⟨rfl, rfl, rfl⟩ := hq; rfl
                · simp only [Option.some.injEq, Prod.mk.injEq] at hq; obtain ⟨rfl, rfl, rfl⟩ := hq; rfl
                · rename_i z bid off es len cap hz hs
                  split at hq
                  · rename_i cs hd
                    simp only [Option.some.injEq, Prod.mk.injEq] at hq; obtain ⟨rfl, rfl, rfl⟩ := hq
                    have hk' : K bid = false := hr bid (by rw [hs]; simp [rdC])
                    have hg : (killL K H)[bid]? = some (.own cs) := by rw [killL_of hk']; exact hd
                    simp only [hg, st bid _ hk']
                  · cases hq
                · cases hq
              · cases hq
            · cases hq
          · cases hq
        · cases hq
      | _ => simp [opM] at hq
  | _ => simp [opM] at hq

/-- What such an operation leaves alone. -/
theorem opM_eff {op : Op} {p : Prop} {v : AC} {H' : List Blk} (hq : opM tab T H op = some (p, v, H')) :
    (∀ i, i < H.length → i ∉ wrOf T op → H'[i]? = H[i]?) ∧ (∀ (i : Nat) (b : Blk), H.length ≤ i → H'[i]? = some b → b.isOwn) ∧ (∀ (i : Nat) (b : Blk), i ∈ wrOf T op → H'[i]? = some b → b.live → b.isOwn ∨ H[i]? = some b) := by
  have new : ∀ (b : Blk), b.isOwn → (∀ i, i < H.length → i ∉ wrOf T op → (H ++ [b])[i]? = H[i]?) ∧ (∀ (i : Nat) (d : Blk), H.length ≤ i → (H ++ [b])[i]? = some d → d.isOwn) ∧ (∀ (i : Nat) (d : Blk), i ∈ wrOf T op → (H ++ [b])[i]? = some d → d.live → d.isOwn ∨ H[i]? = some d) := fun b hb => by
    refine ⟨fun i hi _ => List.getElem?_append_left hi, fun i d hi hd => ?_, fun i d _ hd _ => ?_⟩
    · rw [List.getElem?_append_right hi] at hd
      by_cases h0 : i - H.length = 0
      · rw [h0] at hd; simp at hd; subst hd; exact hb
      · rw [List.getElem?_eq_none (by simp; omega)] at hd; cases hd
    · by_cases hi : i < H.length
      · rw [List.getElem?_append_left hi] at hd; exact .inr hd
      · rw [List.getElem?_append_right (by omega)] at hd
        by_cases h0 : i - H.length = 0
        · rw [h0] at hd; simp at hd; subst hd; exact .inl hb
        · rw [List.getElem?_eq_none (by simp; omega)] at hd; cases hd
  have same : (∀ i, i < H.length → i ∉ wrOf T op → H[i]? = H[i]?) ∧ (∀ (i : Nat) (d : Blk), H.length ≤ i → H[i]? = some d → d.isOwn) ∧ (∀ (i : Nat) (d : Blk), i ∈ wrOf T op → H[i]? = some d → d.live → d.isOwn ∨ H[i]? = some d) :=
    ⟨fun _ _ _ => rfl, (fun i d hi hd => by rw [List.getElem?_eq_none hi] at hd; cases hd), fun i d _ hd _ => .inr hd⟩
  have sets : ∀ (id : Nat) (b : Blk), id ∈ wrOf T op → (b.live → b.isOwn) → (∀ i, i < H.length → i ∉ wrOf T op → (H.set id b)[i]? = H[i]?) ∧ (∀ (i : Nat) (d : Blk), H.length ≤ i → (H.set id b)[i]? = some d → d.isOwn) ∧ (∀ (i : Nat) (d : Blk), i ∈ wrOf T op → (H.set id b)[i]? = some d → d.live → d.isOwn ∨ H[i]? = some d) := fun id b hid hb => by
    refine ⟨fun i hi hw => List.getElem?_set_ne (by rintro rfl; exact hw hid), fun i d hi hd => ?_, fun i d _ hd hl => ?_⟩
    · rw [List.getElem?_eq_none (by simpa using hi)] at hd; cases hd
    · rw [List.getElem?_set] at hd
      split at hd
      · split at hd
        · cases hd; exact .inl (hb hl)
        · cases hd
      · exact .inr hd
  have cons : ∀ (id : Nat) (xs : List Sc), id ∈ wrOf T op → (∀ i, i < H.length → i ∉ wrOf T op → (H.set id .dead ++ [.own xs])[i]? = H[i]?) ∧ (∀ (i : Nat) (d : Blk), H.length ≤ i → (H.set id .dead ++ [.own xs])[i]? = some d → d.isOwn) ∧ (∀ (i : Nat) (d : Blk), i ∈ wrOf T op → (H.set id .dead ++ [.own xs])[i]? = some d → d.live → d.isOwn ∨ H[i]? = some d) := fun id xs hid => by
    refine ⟨fun i hi hw => ?_, fun i d hi hd => ?_, fun i d hw hd hl => ?_⟩
    · rw [List.getElem?_append_left (by simpa using hi)]
      exact List.getElem?_set_ne (by rintro rfl; exact hw hid)
    · rw [List.getElem?_append_right (by simpa using hi)] at hd
      by_cases h0 : i - (H.set id .dead).length = 0
      · rw [h0] at hd; simp at hd; subst hd; trivial
      · rw [List.getElem?_eq_none (by simp at h0 ⊢; omega)] at hd; cases hd
    · by_cases hi : i < H.length
      · rw [List.getElem?_append_left (by simpa using hi), List.getElem?_set] at hd
        split at hd
        · split at hd
          · cases hd; exact hl.elim
          · cases hd
        · exact .inr hd
      · rw [List.getElem?_append_right (by simp; omega)] at hd
        by_cases h0 : i - (H.set id .dead).length = 0
        · rw [h0] at hd; simp at hd; subst hd; exact .inl trivial
        · rw [List.getElem?_eq_none (by simp at h0 ⊢; omega)] at hd; cases hd
  cases op with
  | call c =>
    obtain ⟨cal, args, ats⟩ := c
    cases cal with
    | value f => simp [opM] at hq
    | invoke r m => simp [opM] at hq
    | builtin b =>
      cases b with
      | append =>
        simp only [opM] at hq
        split at hq
        · rename_i s x t tx ha1 ha2
          split at hq
          · split at hq
            · split at hq
              · split at hq
                · split at hq
                  · simp only [Option.some.injEq, Prod.mk.injEq] at hq; obtain ⟨rfl, rfl, rfl⟩ := hq; exact new _ trivial
                  · cases hq
                · split at hq
                  · rename_i p' n xs hsrc
                    split at hq
                    · simp only [Option.some.injEq, Prod.mk.injEq] at hq; obtain ⟨rfl, rfl, rfl⟩ := hq
                      by_cases h0 : n = 0
                      · rw [if_pos h0]; exact same
                      · rw [if_neg h0]; exact new _ trivial
                    · simp only [Option.some.injEq, Prod.mk.injEq] at hq; obtain ⟨rfl, rfl, rfl⟩ := hq
                      by_cases h0 : n = 0
                      · rw [if_pos h0]; exact same
                      · rw [if_neg h0]; exact new _ trivial
                    · rename_i bid off es len cap hs
                      split at hq
                      · split at hq
                        · simp only [Option.some.injEq, Prod.mk.injEq] at hq; obtain ⟨rfl, rfl, rfl⟩ := hq
                          exact sets bid _ (by simp only [wrOf, ha1, hs]; simp [rdC]) fun _ => trivial
                        · simp only [Option.some.injEq, Prod.mk.injEq] at hq; obtain ⟨rfl, rfl, rfl⟩ := hq
                          exact cons bid _ (by simp only [wrOf, ha1, hs]; simp [rdC])
                      · cases hq
                    · cases hq
                  · cases hq
              · cases hq
            · cases hq
          · cases hq
        · cases hq
      | copy =>
        simp only [opM] at hq
        split at hq
        · rename_i s x t tx ha1 ha2
          split at hq
          · split at hq
            · split at hq
              · split at hq
                · split at hq
                  · simp only [Option.some.injEq, Prod.mk.injEq] at hq; obtain ⟨rfl, rfl, rfl⟩ := hq; exact same
                  · simp only [Option.some.injEq, Prod.mk.injEq] at hq; obtain ⟨rfl, rfl, rfl⟩ := hq; exact same
                  · rename_i bid off es len cap hs
                    split at hq
                    · simp only [Option.some.injEq, Prod.mk.injEq] at hq; obtain ⟨rfl, rfl, rfl⟩ := hq
                      exact sets bid _ (by simp only [wrOf, ha1, hs]; simp [rdC]) fun _ => trivial
                    · cases hq
                  · cases hq
                · cases hq
              · cases hq
            · cases hq
          · cases hq
        · cases hq
      | clear =>
        simp only [opM] at hq
        split at hq
        · rename_i s t ha1 ha2
          split at hq
          · split at hq
            · split at hq
              · split at hq
                · simp only [Option.some.injEq, Prod.mk.injEq] at hq; obtain ⟨rfl, rfl, rfl⟩ := hq; exact same
                · simp only [Option.some.injEq, Prod.mk.injEq] at hq; obtain ⟨rfl, rfl, rfl⟩ := hq; exact same
                · rename_i z bid off es len cap hz hs
                  split at hq
                  · simp only [Option.some.injEq, Prod.mk.injEq] at hq; obtain ⟨rfl, rfl, rfl⟩ := hq
                    exact sets bid _ (by simp only [wrOf, ha1, hs]; simp [rdC]) fun _ => trivial
                  · cases hq
                · cases hq
              · cases hq
            · cases hq
          · cases hq
        · cases hq
      | _ => simp [opM] at hq
  | store t x y =>
    simp only [opM] at hq
    repeat' split at hq
    all_goals first
      | (cases hq; done)
      | skip
    rename_i i bid off ys h1 h2 h3 _ cs h4
    simp only [Option.some.injEq, Prod.mk.injEq] at hq; obtain ⟨rfl, rfl, rfl⟩ := hq
    exact sets bid _ (by simp only [wrOf, h2]; simp [rdC]) fun _ => trivial
  | _ =>
    simp only [opM] at hq
    repeat' split at hq
    all_goals first
      | (cases hq; done)
      | (simp only [Option.some.injEq, Prod.mk.injEq] at hq; obtain ⟨rfl, rfl, rfl⟩ := hq; first | exact new _ trivial | exact same)
end
end Go.Proofs.Ytjjhogleiolngaa
