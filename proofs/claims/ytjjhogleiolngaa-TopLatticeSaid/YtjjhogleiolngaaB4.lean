/- Arguments that are slices. No program stands here. -/
import Derived.Test.YtjjhogleiolngaaB3
import Derived.Test.YtjjhogleiolngaaFit
namespace Go.Proofs.Ytjjhogleiolngaa
set_option linter.unusedVariables false
open Go.RowKit
/-- A slice argument, read: the list, the block that it lies in, the abstract slice (its block has the number id). -/
structure InS {α : Type} (w : World) (enc : α → List Sc) (k : Nat) (v : Value) (xs : List α) (L : Loc) (blk : Blk) (a : Nat → Sc) : Prop where
  own : ¬blk.isOwn
  hold : ∀ ρ, holds ρ w L blk
  sl : (xs = [] ∧ ((∀ id, a id = .nils) ∨ ∀ id, a id = .sle)) ∨ ∃ cap cs, (∀ id, a id = .sl id 0 k xs.length cap) ∧ xs.length ≤ cap ∧ xs.length * k ≤ cs.length ∧ blk = .ro cs ∧ ∀ (i : Nat) (x : α), xs[i]? = some x → ∀ (j : Nat) (y : Sc), (enc x)[j]? = some y → cs[i * k + j]? = some y
  rel : ∀ (ρ : Map) (id : Nat), ρ id = some L → relS ρ (a id) v
  len : xs.length ≤ maxLen
theorem plain_rel {ρ : Map} {x : Sc} {v : Value} (h : scB x v = true) : relS ρ x v := relS_scB h
theorem scsB_at : ∀ {xs : List Sc} {vs : List Value}, scsB xs vs = true → xs.length = vs.length ∧ ∀ (j : Nat) (y : Sc), xs[j]? = some y → ∃ v, vs[j]? = some v ∧ scB y v = true
  | [], [], _ => ⟨rfl, fun j y h => by simp at h⟩
  | x :: xs, v :: vs, h => by
    simp only [scsB, Bool.and_eq_true] at h
    obtain ⟨h1, h2⟩ := scsB_at h.2
    refine ⟨by simp [h1], fun j y hj => ?_⟩
    cases j with
    | zero => simp at hj; subst hj; exact ⟨v, rfl, h.1⟩
    | succ j => simpa using h2 j y (by simpa using hj)
  | [], _ :: _, h => by simp [scsB] at h
  | _ :: _, [], h => by simp [scsB] at h
theorem cell_parts {w : World} {a : Addr} {v : Value} (h : w.cell? a = some v) : a.spot = none ∧ ∃ c e fr, w.heap[a.block]? = some (.cells c e fr) ∧ c[a.off]? = some v := by
  unfold World.cell? at h
  split at h
  · rename_i c e fr hb
    split at h
    · cases h
    · rename_i hs; exact ⟨by simpa using hs, c, e, fr, hb, h⟩
  · cases h
theorem flat_cells {α : Type} {enc : α → List Sc} {k : Nat} (hl : ∀ x, (enc x).length = k) (hk : 0 < k) : ∀ {xs : List α} {q : Nat} {y : Sc}, (xs.flatMap enc)[q]? = some y → ∃ i x j, xs[i]? = some x ∧ (enc x)[j]? = some y ∧ q = i * k + j
  | [], q, y, h => by simp at h
  | x :: r, q, y, h => by
    rw [List.flatMap_cons] at h
    by_cases hq : q < k
    · rw [List.getElem?_append_left (by rw [hl]; exact hq)] at h
      exact ⟨0, x, q, rfl, h, by simp⟩
    · rw [List.getElem?_append_right (by rw [hl]; omega), hl] at h
      obtain ⟨i, z, j, h1, h2, h3⟩ := flat_cells hl hk h
      exact ⟨i + 1, z, j, h1, h2, by rw [Nat.succ_mul]; omega⟩
theorem flat_cell' {α : Type} {enc : α → List Sc} {k : Nat} (hl : ∀ x, (enc x).length = k) : ∀ {xs : List α} {i : Nat} {x : α} {j : Nat} {y : Sc}, xs[i]? = some x → (enc x)[j]? = some y → (xs.flatMap enc)[i * k + j]? = some y
  | [], _, _, _, _, h, _ => by simp at h
  | z :: r, 0, x, j, y, h, hy => by
    simp only [List.getElem?_cons_zero, Option.some.injEq] at h
    subst h
    have hj := (List.getElem?_eq_some_iff.1 hy).1
    rw [List.flatMap_cons, Nat.zero_mul, Nat.zero_add, List.getElem?_append_left hj]; exact hy
  | z :: r, i + 1, x, j, y, h, hy => by
    have ih := flat_cell' hl (xs := r) (i := i) (x := x) (by simpa using h) hy
    rw [List.flatMap_cons, show (i + 1) * k + j = (enc z).length + (i * k + j) by rw [hl, Nat.succ_mul]; omega, List.getElem?_append_right (by omega), Nat.add_sub_cancel_left]
    exact ih
theorem flat_len' {α : Type} {enc : α → List Sc} {k : Nat} (hl : ∀ x, (enc x).length = k) : ∀ (xs : List α), (xs.flatMap enc).length = xs.length * k
  | [] => by simp
  | x :: r => by rw [List.flatMap_cons, List.length_append, flat_len' hl r, hl, List.length_cons, Nat.succ_mul]; omega
theorem in_slice {α : Type} {enc : α → List Sc} {Q : α → Prop} {w : World} {ks : List CK} {v : Value} (h : Fit1 w (.slice ks) v) (hk : 0 < ks.length) (hl : ∀ x, (enc x).length = ks.length) (hd : ∀ cs, Fit w ks cs → ∃ x, scsB (enc x) cs = true ∧ Q x) :
    ∃ (xs : List α) (L : Loc) (blk : Blk) (a : Nat → Sc), InS w enc ks.length v xs L blk a ∧ ∀ x ∈ xs, Q x := by
  obtain ⟨A, n, c, rows, rfl, h1, h2, hs, hn, h3, h4⟩ := h.slice_inv
  cases A with
  | none =>
    obtain ⟨rfl, rfl⟩ := hn rfl
    exact ⟨[], ⟨0, 0, 0⟩, .dead, fun _ => .nils, ⟨fun h => h, fun _ => trivial, .inl ⟨rfl, .inl fun _ => rfl⟩, fun ρ id _ => rfl, by simp⟩, fun x hx => by cases hx⟩
  | some a =>
    have key : ∀ m, m ≤ n → ∃ xs : List α, xs.length = m ∧ (∀ i x, xs[i]? = some x → scsB (enc x) (rows i) = true) ∧ ∀ x ∈ xs, Q x := by
      intro m
      induction m with
      | zero => intro _; exact ⟨[], rfl, fun i x h => by simp at h, fun x hx => by cases hx⟩
      | succ m ih =>
        intro hm
        obtain ⟨xs, g1, g2, g3⟩ := ih (by omega)
        obtain ⟨x, q1, q2⟩ := hd _ (h3 m (by omega))
        refine ⟨xs ++ [x], by simp [g1], fun i y hy => ?_, fun y hy => ?_⟩
        · by_cases hi : i < m
          · rw [List.getElem?_append_left (by omega)] at hy; exact g2 i y hy
          · have hlt := (List.getElem?_eq_some_iff.1 hy).1
            simp [g1] at hlt
            obtain rfl : i = m := by omega
            rw [List.getElem?_append_right (by omega)] at hy
            simp [g1] at hy; subst hy; exact q1
        · rcases List.mem_append.1 hy with h | h
          · exact g3 y h
          · simp at h; subst h; exact q2
    obtain ⟨xs, rfl, g2, g3⟩ := key n (Nat.le_refl _)
    have hrelS : ∀ (ρ : Map) (id : Nat), ρ id = some ⟨a.block, a.off, c * ks.length⟩ → relS ρ (.sl id 0 ks.length xs.length c) (.slice (some a) xs.length c) := fun ρ id hρ => by
      refine ⟨_, a, c, hρ, rfl, h1, Nat.le_refl _, h2, ?_⟩
      by_cases hc : c = 0
      · exact .inl hc
      · refine .inr ⟨?_, by show 0 + c * ks.length ≤ c * ks.length; omega⟩
        obtain ⟨v, hv⟩ := hs a rfl (by omega) hk
        have := (cell_parts hv).1
        cases a; simp only at this; subst this; simp
    by_cases h0 : xs = []
    · subst h0
      by_cases hc0 : c = 0
      · subst hc0
        exact ⟨[], ⟨0, 0, 0⟩, .dead, fun _ => .sle, ⟨fun h => h, fun _ => trivial, .inl ⟨rfl, .inr fun _ => rfl⟩, fun ρ id _ => ⟨a, rfl⟩, by simp⟩, g3⟩
      · obtain ⟨v, hv⟩ := hs a rfl (by omega) hk
        obtain ⟨_, cc, e, fr, hb, _⟩ := cell_parts hv
        exact ⟨[], ⟨a.block, a.off, c * ks.length⟩, .ro [], fun id => .sl id 0 ks.length 0 c, ⟨fun h => h, fun _ => ⟨cc, e, fr, hb, fun j x hj => by simp at hj⟩, .inr ⟨c, [], fun _ => rfl, by simp, by simp, rfl, fun i x hx => by simp at hx⟩, hrelS, by simp⟩, g3⟩
    · have hlen : 0 < xs.length := List.length_pos_iff.2 h0
      have cell : ∀ i x, xs[i]? = some x → ∀ j y, (enc x)[j]? = some y → ∃ u, w.cell? (a.add (i * ks.length + j)) = some u ∧ scB y u = true := fun i x hx j y hy => by
        obtain ⟨a', ha', q1⟩ := h4 i (List.getElem?_eq_some_iff.1 hx).1
        cases ha'
        obtain ⟨_, q2⟩ := scsB_at (g2 i x hx)
        obtain ⟨u, q3, q4⟩ := q2 j y hy
        exact ⟨u, q1 j u q3, q4⟩
      have spot : a.spot = none := by obtain ⟨v, hv⟩ := hs a rfl (by omega) hk; exact (cell_parts hv).1
      obtain ⟨b, o, sp⟩ := a
      simp only at spot
      subst spot
      have hb : ∃ c e fr, w.heap[b]? = some (.cells c e fr) := by
        have hx0 := List.getElem?_eq_getElem hlen
        obtain ⟨u, hu, _⟩ := cell 0 _ hx0 0 _ (List.getElem?_eq_getElem (by rw [hl]; exact hk))
        rw [Nat.zero_mul, Nat.zero_add] at hu
        obtain ⟨_, c, e, fr, hb, _⟩ := cell_parts hu
        exact ⟨c, e, fr, hb⟩
      obtain ⟨cc, e, fr, hb⟩ := hb
      refine ⟨xs, ⟨b, o, c * ks.length⟩, .ro (xs.flatMap enc), fun id => .sl id 0 ks.length xs.length c, ⟨fun h => h, fun ρ => ⟨cc, e, fr, hb, fun q y hq => ?_⟩, .inr ⟨c, _, fun _ => rfl, h1, by rw [flat_len' hl]; exact Nat.le_refl _, rfl, fun i x hx j y hy => flat_cell' hl hx hy⟩, hrelS, by omega⟩, g3⟩
      obtain ⟨i, x, j, q1, q2, rfl⟩ := flat_cells hl hk hq
      obtain ⟨u, q3, q4⟩ := cell i x q1 j y q2
      have e1 : (⟨b, o, none⟩ : Addr).add (i * ks.length + j) = ⟨b, o + (i * ks.length + j), none⟩ := by unfold Addr.add; split <;> simp_all
      rw [e1] at q3
      obtain ⟨_, c', e', fr', hb', hv⟩ := cell_parts q3
      simp only at hb' hv
      rw [hb] at hb'
      cases hb'
      exact ⟨u, hv, plain_rel q4⟩
/-- The blocks of the arguments. -/
def locs (l : List (Loc × Blk)) : Map := fun i => (l[i]?).map (·.1)
theorem rel_args {w : World} (l : List (Loc × Blk)) (h : ∀ p ∈ l, ¬p.2.isOwn ∧ ∀ ρ, holds ρ w p.1 p.2) : Rel (locs l) (l.map (·.2)) w := by
  have get : ∀ i L d, locs l i = some L → (l.map (·.2))[i]? = some d → (L, d) ∈ l := fun i L d h1 h2 => by
    simp only [locs, Option.map_eq_some_iff, List.getElem?_map] at h1 h2
    obtain ⟨p, hp, rfl⟩ := h1
    obtain ⟨p', hp', rfl⟩ := h2
    rw [hp] at hp'; cases hp'
    exact List.mem_of_getElem? hp
  refine ⟨fun i L h1 => ?_, fun i L d h1 h2 => (h _ (get i L d h1 h2)).2 _, fun i j L M b d _ h1 h2 h3 h4 ho _ => ((h _ (get i L b h1 h3)).1 ho).elim⟩
  simp only [locs, Option.map_eq_some_iff] at h1
  obtain ⟨p, hp, _⟩ := h1
  simpa using (List.getElem?_eq_some_iff.1 hp).1
theorem own_args {l : List (Loc × Blk)} (h : ∀ p ∈ l, ¬p.2.isOwn) : ∀ (i : Nat) (b : Blk), (l.map (·.2))[i]? = some b → ¬b.isOwn := fun i b hb => by
  rw [List.getElem?_map, Option.map_eq_some_iff] at hb
  obtain ⟨p, hp, rfl⟩ := hb
  exact h p (List.mem_of_getElem? hp)
end Go.Proofs.Ytjjhogleiolngaa
