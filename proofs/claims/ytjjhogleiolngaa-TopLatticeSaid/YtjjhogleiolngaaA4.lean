/- The abstract machine: every computing and reading operation is sound. No program stands here. -/
import Derived.Test.YtjjhogleiolngaaA3
namespace Go.Proofs.Ytjjhogleiolngaa
open Go.RowKit

section
variable {P : Program} {tab : TypeId → Option TI} {ρ : Map} {w : World}

theorem binC_sound {t : TypeId} {i : TI} (ht : TOk P t i) (op : BinOp) {x y : AC} {a b : Value} (ha : relC ρ x a) (hb : relC ρ y b) {p : Prop} {v : Sc} (he : binC i op x y = some (p, v)) (hp : p) (q r : Operand) :
    ∃ u, (do eqGuard op t q r a b; binOp op t a b : Sem Value).run P w = .ok u w ∧ relS ρ v u := by
  unfold binC at he
  split at he
  · obtain rfl := relS_int ha
    obtain rfl := relS_int hb
    simp only [Option.some.injEq] at he
    rename_i k n k' m
    have h1 : (binI op k k' n m).1 := by rw [he]; exact hp
    obtain ⟨u, hu, hr⟩ := binI_sound (P := P) (ρ := ρ) (w := w) t op k k' n m h1
    refine ⟨u, ?_, by rw [he] at hr; exact hr⟩
    rw [Sem.run_bind, eqGuard_plain _ _ _ _ _ _ trivial]
    exact hu
  · obtain rfl := relS_str ha
    obtain rfl := relS_str hb
    obtain ⟨u, hu, hr⟩ := binS_sound (P := P) (ρ := ρ) (w := w) t op _ _ he hp
    refine ⟨u, ?_, hr⟩
    rw [Sem.run_bind, eqGuard_plain _ _ _ _ _ _ trivial]
    exact hu
  · split at he
    · obtain ⟨⟨s, hs, rfl⟩, hg, h1, h2, h3, h4⟩ := eqC_sound (P := P) (w := w) ht true ha hb he hp
      refine ⟨.bool s, ?_, by cases s <;> rfl⟩
      rw [Sem.run_bind, hg]
      simp only [Result.andThen_ok]
      unfold binOp
      split <;> first
        | (rename_i h _ _; exact absurd rfl (h1 _ _))
        | (simp_all; done)
        | (simp only [Sem.run_bind, hs, Result.andThen_ok, Sem.run_pure]; done)
        | (exfalso; simp_all; done)
    · obtain ⟨⟨s, hs, rfl⟩, hg, h1, h2, h3, h4⟩ := eqC_sound (P := P) (w := w) ht false ha hb he hp
      refine ⟨.bool (!s), ?_, by cases s <;> rfl⟩
      rw [Sem.run_bind, hg]
      simp only [Result.andThen_ok]
      unfold binOp
      split <;> first
        | (simp_all; done)
        | (simp only [Sem.run_bind, hs, Result.andThen_ok, Sem.run_pure]; done)
        | (exfalso; simp_all; done)
    · cases he

theorem relL_slice {cs : List Sc} {c : Array Value} {o : Nat} (h : cellsAt ρ c o cs) (off n : Nat) (hn : off + n ≤ cs.length) : relL ρ ((cs.drop off).take n) (c.extract (o + off) (o + off + n)) := by
  have hsz : n = 0 ∨ o + off + n ≤ c.size := by
    rcases Nat.eq_zero_or_pos n with h0 | h0
    · exact .inl h0
    · obtain ⟨v, hv, _⟩ := h (off + n - 1) _ (List.getElem?_eq_getElem (by omega))
      have := (Array.getElem?_eq_some_iff.1 hv).1; omega
  refine ⟨by simp; omega, fun j x hj => ?_⟩
  rw [List.getElem?_take] at hj
  split at hj
  · rw [List.getElem?_drop] at hj
    obtain ⟨v, hv, hr⟩ := h _ _ hj
    refine ⟨v, ?_, hr⟩
    rw [Array.getElem?_extract]
    have : o + off + j < c.size := by rw [show o + (off + j) = o + off + j by omega] at hv; exact (Array.getElem?_eq_some_iff.1 hv).1
    rw [if_pos (by omega), ← hv]
    congr 1; omega
  · cases hj
theorem add_at (b o j : Nat) : (⟨b, o, none⟩ : Addr).add j = ⟨b, o + j, none⟩ := by unfold Addr.add; split <;> simp_all
theorem cell_at {b o : Nat} {c : Array Value} {e : TypeId} {fr : Nat × Nat} (hb : w.heap[b]? = some (.cells c e fr)) : w.cell? ⟨b, o, none⟩ = c[o]? := by simp [World.cell?, hb]

/-- Cells that are there, read in a row. -/
theorem loadCells_at {b o n : Nat} {c : Array Value} {e : TypeId} {fr : Nat × Nat} (hb : w.heap[b]? = some (.cells c e fr)) (h : n = 0 ∨ o + n ≤ c.size) :
    (loadCells ⟨b, o, none⟩ n).run P w = .ok (c.extract o (o + n)) w := by
  have hs : (c.extract o (o + n)).toList.length = n := by simp only [Array.length_toList, Array.size_extract]; omega
  have := run_loadCells_list (P := P) w ⟨b, o, none⟩ (c.extract o (o + n)).toList (fun j v hj => by
    rw [add_at, cell_at hb]
    simp only [Array.getElem?_toList] at hj
    rw [Array.getElem?_extract] at hj
    split at hj
    · exact hj
    · cases hj)
  rw [hs] at this
  rw [this]

theorem size_at {cs : List Sc} {c : Array Value} {o : Nat} (h : cellsAt ρ c o cs) {off n : Nat} (hn : off + n ≤ cs.length) : n = 0 ∨ o + off + n ≤ c.size := by
  rcases Nat.eq_zero_or_pos n with h0 | h0
  · exact .inl h0
  · obtain ⟨v, hv, _⟩ := h (off + n - 1) _ (List.getElem?_eq_getElem (by omega))
    have := (Array.getElem?_eq_some_iff.1 hv).1; omega

theorem load_sound {t : TypeId} {i : TI} (ht : TOk P t i) {cs : List Sc} {off : Nat} {p : Prop} {v : AC} (hl : ldC i cs off = some (p, v)) (hp : p)
    {b o : Nat} {c : Array Value} {e : TypeId} {fr : Nat × Nat} (hb : w.heap[b]? = some (.cells c e fr)) (hc : cellsAt ρ c o cs) :
    ∃ u, (Instr.loadAt t (.pointer (some ⟨b, o + off, none⟩))).run P w = .ok u w ∧ relC ρ v u := by
  have scal : ∀ {x : Sc}, i.k.isAgg = false → (i.k = .other → False) → cs[off]? = some x → ∃ u, (Instr.loadAt t (.pointer (some ⟨b, o + off, none⟩))).run P w = .ok u w ∧ relC ρ (.sc x) u := fun {x} h1 h2 h3 => by
    obtain ⟨u, hu, hr⟩ := hc _ _ h3
    refine ⟨u, ?_, hr⟩
    simp [Instr.loadAt, Instr.sureAddr, loadVar, ht.agg h2, h1, cell_at hb, hu]
  have agg : i.k.isAgg = true → (i.k = .other → False) → off + i.size ≤ cs.length → ∃ u, (Instr.loadAt t (.pointer (some ⟨b, o + off, none⟩))).run P w = .ok u w ∧ relC ρ (.agg ((cs.drop off).take i.size)) u := fun h1 h2 h3 => by
    refine ⟨.agg (c.extract (o + off) (o + off + i.size)), ?_, ⟨_, rfl, relL_slice hc off i.size h3⟩⟩
    simp [Instr.loadAt, Instr.sureAddr, loadVar, ht.agg h2, h1, ht.size, loadCells_at hb (size_at hc h3)]
  unfold ldC at hl
  split at hl
  · rename_i hk; simp only [Option.some.injEq, Prod.mk.injEq] at hl; obtain ⟨rfl, rfl⟩ := hl
    exact agg (by rw [hk]; rfl) (by rw [hk]; simp) hp
  · rename_i hk; simp only [Option.some.injEq, Prod.mk.injEq] at hl; obtain ⟨rfl, rfl⟩ := hl
    exact agg (by rw [hk]; rfl) (by rw [hk]; simp) hp
  · rename_i hk; simp only [Option.some.injEq, Prod.mk.injEq] at hl; obtain ⟨rfl, rfl⟩ := hl
    exact scal (by rw [hk]; rfl) (by rw [hk]; simp) hp
  · rename_i hk; simp only [Option.some.injEq, Prod.mk.injEq] at hl; obtain ⟨rfl, rfl⟩ := hl
    exact scal (by rw [hk]; rfl) (by rw [hk]; simp) hp
  · rename_i hk; simp only [Option.some.injEq, Prod.mk.injEq] at hl; obtain ⟨rfl, rfl⟩ := hl
    exact scal (by rw [hk]; rfl) (by rw [hk]; simp) hp
  · cases hl
  · rename_i h1 h2 h3 h4 h5 h6; simp only [Option.some.injEq, Prod.mk.injEq] at hl; obtain ⟨rfl, rfl⟩ := hl
    refine scal ?_ (by assumption) (by rw [List.getElem?_eq_getElem hp]; rfl)
    cases hk : i.k <;> simp_all [TK.isAgg]

/-- A part of an aggregate. -/
theorem part_sound {t : TypeId} {i : TI} (ht : TOk P t i) {cs : List Sc} {off : Nat} {p : Prop} {v : AC} (hl : ldC i cs off = some (p, v)) (hp : p)
    {c : Array Value} (hc : relL ρ cs c) : ∃ u, (part t c off).run P w = .ok u w ∧ relC ρ v u := by
  have hc0 : cellsAt ρ c 0 cs := fun j x hj => by simpa using hc.2 j x hj
  have scal : ∀ {x : Sc}, i.k.isAgg = false → (i.k = .other → False) → cs[off]? = some x → ∃ u, (part t c off).run P w = .ok u w ∧ relC ρ (.sc x) u := fun {x} h1 h2 h3 => by
    obtain ⟨u, hu, hr⟩ := hc.2 _ _ h3
    refine ⟨u, ?_, hr⟩
    simp [part, ht.agg h2, h1, hu]
  have agg : i.k.isAgg = true → (i.k = .other → False) → off + i.size ≤ cs.length → ∃ u, (part t c off).run P w = .ok u w ∧ relC ρ (.agg ((cs.drop off).take i.size)) u := fun h1 h2 h3 => by
    refine ⟨.agg (c.extract off (off + i.size)), ?_, ⟨_, rfl, by simpa using relL_slice hc0 off i.size h3⟩⟩
    simp [part, ht.agg h2, h1, ht.size]
  unfold ldC at hl
  split at hl
  · rename_i hk; simp only [Option.some.injEq, Prod.mk.injEq] at hl; obtain ⟨rfl, rfl⟩ := hl
    exact agg (by rw [hk]; rfl) (by rw [hk]; simp) hp
  · rename_i hk; simp only [Option.some.injEq, Prod.mk.injEq] at hl; obtain ⟨rfl, rfl⟩ := hl
    exact agg (by rw [hk]; rfl) (by rw [hk]; simp) hp
  · rename_i hk; simp only [Option.some.injEq, Prod.mk.injEq] at hl; obtain ⟨rfl, rfl⟩ := hl
    exact scal (by rw [hk]; rfl) (by rw [hk]; simp) hp
  · rename_i hk; simp only [Option.some.injEq, Prod.mk.injEq] at hl; obtain ⟨rfl, rfl⟩ := hl
    exact scal (by rw [hk]; rfl) (by rw [hk]; simp) hp
  · rename_i hk; simp only [Option.some.injEq, Prod.mk.injEq] at hl; obtain ⟨rfl, rfl⟩ := hl
    exact scal (by rw [hk]; rfl) (by rw [hk]; simp) hp
  · cases hl
  · rename_i h1 h2 h3 h4 h5 h6; simp only [Option.some.injEq, Prod.mk.injEq] at hl; obtain ⟨rfl, rfl⟩ := hl
    refine scal ?_ (by assumption) (by rw [List.getElem?_eq_getElem hp]; rfl)
    cases hk : i.k <;> simp_all [TK.isAgg]

/-! ### build -/
theorem relL_set {xs : List Sc} {vs : Array Value} (h : relL ρ xs vs) (k : Nat) {x : Sc} {v : Value} (hx : relS ρ x v) : relL ρ (xs.set k x) (vs.setIfInBounds k v) := by
  refine ⟨by simp [h.1], fun j y hj => ?_⟩
  rw [List.getElem?_set] at hj
  split at hj
  · rename_i hk; subst hk
    split at hj
    · cases hj; rename_i hlt; exact ⟨v, by rw [Array.getElem?_setIfInBounds, if_pos rfl, if_pos (by rw [h.1]; exact hlt)], hx⟩
    · cases hj
  · rename_i hk
    obtain ⟨u, hu, hr⟩ := h.2 j y hj
    exact ⟨u, by rw [Array.getElem?_setIfInBounds, if_neg hk]; exact hu, hr⟩
theorem splice_sound : ∀ (cs : List Sc) (us : List Value) (off k : Nat) (z : List Sc) (zs : Array Value), relL ρ cs us.toArray → relL ρ z zs →
    relL ρ (splice (off + k) cs z) ((us.zipIdx k).foldl (fun cs (c, j) => cs.setIfInBounds (off + j) c) zs)
  | [], [], _, _, _, _, _, hz => hz
  | c :: cs, u :: us, off, k, z, zs, h, hz => by
    obtain ⟨u', hu, r⟩ := h.2 0 c rfl
    simp at hu; subst hu
    have t1 : relL ρ cs us.toArray := ⟨by have := h.1; simpa using this, fun j z hj => by
      obtain ⟨q, hq, rq⟩ := h.2 (j + 1) z (by simpa using hj); exact ⟨q, by simpa using hq, rq⟩⟩
    exact splice_sound cs us off (k + 1) _ _ t1 (relL_set hz (off + k) r)
  | [], _ :: _, _, _, _, _, h, _ => by have := h.1; simp at this
  | _ :: _, [], _, _, _, _, h, _ => by have := h.1; simp at this
theorem splice_length : ∀ (cs : List Sc) (off : Nat) (z : List Sc), (splice off cs z).length = z.length
  | [], _, _ => rfl
  | c :: cs, off, z => by simp [splice, splice_length cs]
theorem cells_rel {x : AC} {v : Value} (h : relC ρ x v) {cs : List Sc} (hc : x.cells = some cs) : relL ρ cs v.cells := by
  cases x with
  | sc x =>
    simp only [AC.cells, Option.some.injEq] at hc; subst hc
    have ho := relS_one h
    have : v.cells = #[v] := by cases v <;> first | rfl | (simp [Value.oneCell'] at ho)
    rw [this]
    exact ⟨rfl, fun j y hj => by
      cases j with
      | zero => simp at hj; subst hj; exact ⟨v, rfl, h⟩
      | succ j => simp at hj⟩
  | agg as =>
    simp only [AC.cells, Option.some.injEq] at hc; subst hc
    obtain ⟨vs, rfl, hr⟩ := h
    exact hr
  | top => cases hc
/-- The parts and their values. -/
def partsRel (ρ : Map) : List (Nat × AC) → List (Nat × Value) → Prop
  | [], [] => True
  | (i, x) :: r, (j, v) :: s => i = j ∧ relC ρ x v ∧ partsRel ρ r s
  | _, _ => False
theorem fill_sound {place place' : Nat → Option (Nat × Nat)} (hpl : ∀ i q, place i = some q → place' i = some q) : ∀ (ps : List (Nat × AC)) (vs : List (Nat × Value)) (z out : List Sc) (zs : Array Value), partsRel ρ ps vs → relL ρ z zs → fillS place z ps = some out →
    ∃ os, Instr.fill place' zs vs = some os ∧ relL ρ out os
  | [], [], z, out, zs, _, hz, h => by simp only [fillS, Option.some.injEq] at h; subst h; exact ⟨zs, rfl, hz⟩
  | (i, x) :: ps, (j, v) :: vs, z, out, zs, hp, hz, h => by
    obtain ⟨rfl, hx, hp⟩ := hp
    simp only [fillS] at h
    split at h
    · rename_i off size cs h1 h2
      split at h
      · rename_i hl
        have hr := cells_rel hx h2
        have e1 : v.cells.size = size := by rw [hr.1]; exact hl.1
        have e2 : off + v.cells.size ≤ zs.size := by rw [hz.1, e1]; exact hl.2
        have hs := splice_sound cs v.cells.toList off 0 z zs (by simpa using hr) hz
        obtain ⟨os, ho, hro⟩ := fill_sound hpl ps vs _ out _ hp hs h
        refine ⟨os, ?_, hro⟩
        simp only [Instr.fill, hpl _ _ h1]
        rw [if_neg (by simp; omega)]
        rw [← ho]
        congr 1
        simp only [← Array.foldl_toList, Array.toList_zipIdx]
      · cases h
    · cases h
  | [], _ :: _, _, _, _, h, _, _ => h.elim
  | _ :: _, [], _, _, _, h, _, _ => h.elim
end
end Go.Proofs.Ytjjhogleiolngaa
