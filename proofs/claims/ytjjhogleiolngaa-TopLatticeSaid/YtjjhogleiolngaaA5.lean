/- The abstract machine: the computing and reading operations, all of them, are sound. No program stands here. -/
import Derived.Test.YtjjhogleiolngaaA4
import Derived.Laws.Slices
namespace Go.Proofs.Ytjjhogleiolngaa
open Go.RowKit

section
variable {P : Program} {tab : TypeId → Option TI} {ρ : Map} {w : World} {T : Nat → AV} {H : List Blk} {N : Nat} {a : Act}

def opFit (N : Nat) (o : Op) : Bool := o.operands.toList.all (Operand.fit N)

theorem ac_rel (hs : Slots ρ N T a) {x : Operand} (hf : Operand.fit N x = true) (hg : (ev T x).gd = true) : relC ρ (ev T x).ac (a.eval x) := relC_of_V (ev_rel hs hf) hg

theorem bnd_sound (hs : Slots ρ N T a) {d : Int} {x : Operand} (hf : Operand.fit N x = true) {p : Prop} {n : Int} (h : bnd T d (some x) = some (p, n)) (hp : p) : ∃ k, a.eval x = .int k n := by
  simp only [bnd] at h
  split at h
  · rename_i k n' hx
    simp only [Option.some.injEq, Prod.mk.injEq] at h
    obtain ⟨rfl, rfl⟩ := h
    have := ac_rel hs hf hp
    rw [hx] at this
    exact ⟨k, this⟩
  · cases h
theorem ints_sound (hs : Slots ρ N T a) : ∀ {xs : List Operand} {p : Prop} {l : List (IntKind × Int)}, xs.all (Operand.fit N) = true → ints T xs = some (p, l) → p → xs.map a.eval = l.map fun q => .int q.1 q.2
  | [], p, l, _, h, _ => by simp only [ints, Option.some.injEq, Prod.mk.injEq] at h; obtain ⟨_, rfl⟩ := h; rfl
  | x :: xs, p, l, hf, h, hp => by
    simp only [List.all_cons, Bool.and_eq_true] at hf
    simp only [ints] at h
    split at h
    · rename_i k n q l' hx hr
      simp only [Option.some.injEq, Prod.mk.injEq] at h
      obtain ⟨rfl, rfl⟩ := h
      have := ac_rel hs hf.1 hp.1
      rw [hx] at this
      have e : a.eval x = .int k n := this
      simp [e, ints_sound hs hf.2 hr hp.2]
    · cases h
theorem caps_sound (hs : Slots ρ N T a) : ∀ {xs : List Operand} {p : Prop} {l : List (Nat × Nat)}, xs.all (Operand.fit N) = true → caps T xs = some (p, l) → p →
    xs.length = l.length ∧ ∀ (j : Nat) (q : Nat × Nat), l[j]? = some q → ∃ L, ρ q.1 = some L ∧ (xs.map a.eval)[j]? = some (.pointer (some ⟨L.b, L.o + q.2, none⟩))
  | [], p, l, _, h, _ => by simp only [caps, Option.some.injEq, Prod.mk.injEq] at h; obtain ⟨_, rfl⟩ := h; exact ⟨rfl, fun j q h => by simp at h⟩
  | x :: xs, p, l, hf, h, hp => by
    simp only [List.all_cons, Bool.and_eq_true] at hf
    simp only [caps] at h
    split at h
    · rename_i id off q l' hx hr
      simp only [Option.some.injEq, Prod.mk.injEq] at h
      obtain ⟨rfl, rfl⟩ := h
      have := ac_rel hs hf.1 hp.1
      rw [hx] at this
      obtain ⟨L, e1, e2⟩ := this
      obtain ⟨i1, i2⟩ := caps_sound hs hf.2 hr hp.2
      refine ⟨by simp [i1], fun j q hj => ?_⟩
      cases j with
      | zero => simp at hj; subst hj; exact ⟨L, e1, by simp [e2]⟩
      | succ j => simpa using i2 j q (by simpa using hj)
    · cases h
theorem parts_sound (hs : Slots ρ N T a) : ∀ {xs : List (Nat × Operand)}, (xs.map (·.2)).all (Operand.fit N) = true → (partsC T xs).1 → partsRel ρ (partsC T xs).2 (xs.map fun q => (q.1, a.eval q.2))
  | [], _, _ => trivial
  | (i, x) :: r, hf, hp => by
    simp only [List.map_cons, List.all_cons, Bool.and_eq_true] at hf
    exact ⟨rfl, ac_rel hs hf.1 hp.1, parts_sound hs hf.2 hp.2⟩

/-- A block that an abstract number names. -/
theorem Rel.cells (hr : Rel ρ H w) {id : Nat} {L : Loc} {cs : List Sc} (e : ρ id = some L) (h : Blk.cells? H[id]? = some cs) : ∃ c t fr, w.heap[L.b]? = some (.cells c t fr) ∧ cellsAt ρ c L.o cs := by
  unfold Blk.cells? at h
  split at h
  · rename_i cs' hd
    cases h
    obtain ⟨_, c, t, h1, _, h2⟩ := hr.has id L _ e hd
    exact ⟨c, t, _, h1, h2⟩
  · rename_i cs' hd
    cases h
    obtain ⟨c, t, fr, h1, h2⟩ := hr.has id L _ e hd
    exact ⟨c, t, fr, h1, h2⟩
  · cases h

theorem max_fold : ∀ (l : List (IntKind × Int)) (k : IntKind) (n : Int), ((l.map fun q => (Value.int q.1 q.2)).foldlM Builtin.max2 (.int k n)).run P w = .ok (.int k (l.foldl (fun a b => if a < b.2 then b.2 else a) n)) w
  | [], k, n => rfl
  | q :: l, k, n => by
    simp only [List.map_cons, List.foldlM_cons, Builtin.max2, pure_bind, List.foldl_cons, gt_iff_lt]
    exact max_fold l k _
theorem min_fold : ∀ (l : List (IntKind × Int)) (k : IntKind) (n : Int), ((l.map fun q => (Value.int q.1 q.2)).foldlM Builtin.min2 (.int k n)).run P w = .ok (.int k (l.foldl (fun a b => if b.2 < a then b.2 else a) n)) w
  | [], k, n => rfl
  | q :: l, k, n => by
    simp only [List.map_cons, List.foldlM_cons, Builtin.min2, pure_bind, List.foldl_cons]
    exact min_fold l k _

theorem bytes_fold (f : Value → ByteArray → Sem (ForInStep ByteArray)) (hf : ∀ n s, f (.int .u8 n) s = pure (ForInStep.yield (s.push (UInt8.ofNat n.toNat)))) : ∀ (vs : List Value) (cs : List Sc) (s : ByteArray), relL ρ cs vs.toArray → cs.all isU8 = true →
    (forIn vs s f : Sem ByteArray).run P w = .ok ⟨s.data ++ (cs.map toU8).toArray⟩ w
  | [], [], s, _, _ => by cases s; simp
  | v :: vs, c :: cs, s, h, hu => by
    obtain ⟨u', hv, r⟩ := h.2 0 c rfl
    simp at hv; subst hv
    have t1 : relL ρ cs vs.toArray := ⟨by have := h.1; simpa using this, fun j z hj => by
      obtain ⟨q, hq, rq⟩ := h.2 (j + 1) z (by simpa using hj); exact ⟨q, by simpa using hq, rq⟩⟩
    simp only [List.all_cons, Bool.and_eq_true] at hu
    obtain ⟨h1, h2⟩ := hu
    unfold isU8 at h1
    split at h1
    · rename_i n
      obtain rfl : v = .int .u8 n := r
      simp only [List.forIn_cons, hf, pure_bind]
      rw [bytes_fold f hf vs cs _ t1 h2]
      congr 1
      cases s; simp [toU8, Sc.toI, ByteArray.push]
    · cases h1
  | [], _ :: _, _, h, _ => by have := h.1; simp at this
  | _ :: _, [], _, h, _ => by have := h.1; simp at this

theorem slice_bounds (isS : Bool) (len cap : Nat) (lo hi : Option Value) (l h : Int) (hlo : (lo = none ∧ l = 0) ∨ ∃ k, lo = some (.int k l)) (hhi : (hi = none ∧ h = len) ∨ ∃ k, hi = some (.int k h))
    (h0 : 0 ≤ l) (h1 : l ≤ h) (h2 : h ≤ cap) : (Instr.sliceBounds isS len cap lo hi none).run P w = .ok (l.toNat, h.toNat, cap) w := by
  have e1 : ∀ (k : IntKind) (x : Int) (y : Nat) (c : BoundsCode), 0 ≤ x → x ≤ y → (Instr.sliceBound (.int k x) y c).run P w = .ok x.toNat w := fun k x y c a b => by simp [Instr.sliceBound, asIntOf, a, b]
  rcases hhi with ⟨rfl, rfl⟩ | ⟨k, rfl⟩ <;> rcases hlo with ⟨rfl, rfl⟩ | ⟨k', rfl⟩
  · simp [Instr.sliceBounds]
  · simp [Instr.sliceBounds, e1 k' l len _ h0 h1]
  · simp [Instr.sliceBounds, e1 k h cap _ (by omega) h2]
  · simp [Instr.sliceBounds, e1 k h cap _ (by omega) h2, e1 k' l h.toNat _ h0 (by omega)]
theorem slice_bounds3 (isS : Bool) (len cap : Nat) (lo : Option Value) (l h m : Int) (k k2 : IntKind) (hlo : (lo = none ∧ l = 0) ∨ ∃ k, lo = some (.int k l))
    (h0 : 0 ≤ l) (h1 : l ≤ h) (h2 : h ≤ m) (h3 : m ≤ cap) : (Instr.sliceBounds isS len cap lo (some (.int k h)) (some (.int k2 m))).run P w = .ok (l.toNat, h.toNat, m.toNat) w := by
  have e1 : ∀ (k : IntKind) (x : Int) (y : Nat) (c : BoundsCode), 0 ≤ x → x ≤ y → (Instr.sliceBound (.int k x) y c).run P w = .ok x.toNat w := fun k x y c a b => by simp [Instr.sliceBound, asIntOf, a, b]
  rcases hlo with ⟨rfl, rfl⟩ | ⟨k', rfl⟩
  · simp [Instr.sliceBounds, e1 k2 m cap _ (by omega) h3, e1 k h m.toNat _ (by omega) (by omega)]
  · simp [Instr.sliceBounds, e1 k2 m cap _ (by omega) h3, e1 k h m.toNat _ (by omega) (by omega), e1 k' l h.toNat _ h0 (by omega)]

theorem sliceC_sound (ht : TabOk P tab) {t : TypeId} {i : TI} (hi : tab t = some i) {x : AC} {v : Value} (hx : relC ρ x v) (hr : Rel ρ H w) {l h : Int} {m : Option Int} {lo ho mo : Option Value} {p : Prop} {r : AC}
    (he : sliceC tab H i x l h ho.isSome m = some (p, r)) (hp : p) (hlo : (lo = none ∧ l = 0) ∨ ∃ k, lo = some (.int k l)) (hho : ∀ q, ho = some q → ∃ k, q = .int k h) (hmo : (mo = none ∧ m = none) ∨ ∃ k q, mo = some (.int k q) ∧ m = some q) :
    ∃ u, (Instr.sliceAt t v lo ho mo).run P w = .ok u w ∧ relC ρ r u := by
  have hti := ht t i hi
  have hhi : ∀ d : Nat, (ho = none ∧ (if ho.isSome then h else (d : Int)) = d) ∨ ∃ k, ho = some (.int k (if ho.isSome then h else (d : Int))) := fun d => by
    cases hq : ho with
    | none => exact .inl ⟨rfl, rfl⟩
    | some q => obtain ⟨k, e⟩ := hho q hq; exact .inr ⟨k, by rw [e]; rfl⟩
  unfold sliceC at he
  split at he
  · -- a slice
    rename_i e id off es len cap hk
    obtain ⟨L, ad, c, e1, rfl, hl1, hl2, hl3, hl4⟩ := hx
    have hu := hti.slice hk
    split at he
    · rename_i ie hie
      have hte := ht e ie hie
      simp only at he
      split at he
      · simp only [Option.some.injEq, Prod.mk.injEq] at he
        obtain ⟨rfl, rfl⟩ := he
        obtain ⟨rfl, h0, h1, h2⟩ := hp
        rcases hmo with ⟨rfl, _⟩ | ⟨_, _, _, hmo⟩
        · have hb := slice_bounds (P := P) (w := w) true len c lo ho l _ hlo (hhi len) h0 h1 (by omega)
          refine ⟨.slice (some (if c = l.toNat then ad else ad.add (l.toNat * ie.size))) ((if ho.isSome then h else (len : Int)).toNat - l.toNat) (c - l.toNat), by
            simp only [Instr.sliceAt, Instr.slice, run_underlying hu, hb, hte.size, Sem.run_bind, Result.andThen_ok, Sem.run_pure]
            split <;> rfl, ?_⟩
          refine ⟨L, _, c - l.toNat, e1, rfl, by omega, by omega, by omega, ?_⟩
          by_cases hq : c - l.toNat = 0
          · exact .inl hq
          · refine .inr ?_
            rcases hl4 with h5 | ⟨h5, h6⟩
            · omega
            · rw [if_neg (by omega), h5, add_at]
              refine ⟨by congr 1; omega, ?_⟩
              have : l.toNat * ie.size + (c - l.toNat) * ie.size = c * ie.size := by rw [← Nat.add_mul]; congr 1; omega
              omega
        · cases hmo
      · rename_i m
        simp only [Option.some.injEq, Prod.mk.injEq] at he
        obtain ⟨rfl, rfl⟩ := he
        obtain ⟨rfl, h0, h1, h2, h3, h4⟩ := hp
        rcases hmo with ⟨_, hmo⟩ | ⟨km, q, rfl, hmo⟩
        · cases hmo
        · cases hmo
          obtain ⟨qh, rfl⟩ := Option.isSome_iff_exists.1 h4
          obtain ⟨kh, rfl⟩ := hho qh rfl
          simp only [Option.isSome_some, if_true] at h1 h2 ⊢
          have hb := slice_bounds3 (P := P) (w := w) true len c lo l h m kh km hlo h0 h1 h2 (by omega)
          by_cases hq : m = l
          · subst hq
            have hhm : h = m := by omega
            subst hhm
            refine ⟨.slice (some ad) 0 0, ?_, ?_⟩
            · simp [Instr.sliceAt, Instr.slice, run_underlying hu, hb, hte.size]
            · rw [if_pos rfl]; exact ⟨ad, rfl⟩
          · refine ⟨.slice (some (ad.add (l.toNat * ie.size))) (h.toNat - l.toNat) (m.toNat - l.toNat), ?_, ?_⟩
            · simp [Instr.sliceAt, Instr.slice, run_underlying hu, hb, hte.size]
              omega
            · rw [if_neg hq]
              refine ⟨L, _, m.toNat - l.toNat, e1, rfl, by omega, by omega, by omega, ?_⟩
              refine .inr ?_
              rcases hl4 with h5 | ⟨h5, h6⟩
              · omega
              · rw [h5, add_at]
                refine ⟨by congr 1; omega, ?_⟩
                have e2 : l.toNat * ie.size + (m.toNat - l.toNat) * ie.size = m.toNat * ie.size := by rw [← Nat.add_mul]; congr 1; omega
                have e3 : m.toNat * ie.size ≤ c * ie.size := Nat.mul_le_mul_right _ (by omega)
                omega
    · cases he
  · -- nil
    rename_i e hk
    obtain rfl : v = .slice none 0 0 := hx
    have hu := hti.slice hk
    split at he
    · rename_i ie hie
      simp only [Option.some.injEq, Prod.mk.injEq] at he
      obtain ⟨rfl, rfl⟩ := he
      obtain ⟨rfl, h1, h2⟩ := hp
      have hte := ht e ie hie
      refine ⟨.slice none 0 0, ?_, rfl⟩
      rcases hmo with ⟨rfl, rfl⟩ | ⟨km, q, rfl, rfl⟩
      · have hb := slice_bounds (P := P) (w := w) true 0 0 lo ho 0 0 hlo (by
          rcases hhi 0 with ⟨a1, a2⟩ | ⟨k, a1⟩
          · exact .inl ⟨a1, rfl⟩
          · have := h1 (by rw [a1]; rfl); subst this; exact .inr ⟨k, by rw [a1]; simp⟩) (by omega) (by omega) (by omega)
        simp [Instr.sliceAt, Instr.slice, run_underlying hu, hb, hte.size]
      · obtain ⟨h3, h4⟩ := h2 q rfl
        subst h3
        obtain ⟨qh, rfl⟩ := Option.isSome_iff_exists.1 h4
        obtain ⟨kh, rfl⟩ := hho qh rfl
        have := h1 rfl; subst this
        have hb := slice_bounds3 (P := P) (w := w) true 0 0 lo 0 0 0 kh km hlo (by omega) (by omega) (by omega) (by omega)
        simp [Instr.sliceAt, Instr.slice, run_underlying hu, hb, hte.size]
    · cases he
  · -- an empty one
    rename_i e hk
    obtain ⟨ad, rfl⟩ := hx
    have hu := hti.slice hk
    split at he
    · rename_i ie hie
      simp only [Option.some.injEq, Prod.mk.injEq] at he
      obtain ⟨rfl, rfl⟩ := he
      obtain ⟨rfl, h1, h2⟩ := hp
      have hte := ht e ie hie
      refine ⟨.slice (some ad) 0 0, ?_, ⟨ad, rfl⟩⟩
      rcases hmo with ⟨rfl, rfl⟩ | ⟨km, q, rfl, rfl⟩
      · have hb := slice_bounds (P := P) (w := w) true 0 0 lo ho 0 0 hlo (by
          rcases hhi 0 with ⟨a1, a2⟩ | ⟨k, a1⟩
          · exact .inl ⟨a1, rfl⟩
          · have := h1 (by rw [a1]; rfl); subst this; exact .inr ⟨k, by rw [a1]; simp⟩) (by omega) (by omega) (by omega)
        simp [Instr.sliceAt, Instr.slice, run_underlying hu, hb, hte.size]
      · obtain ⟨h3, h4⟩ := h2 q rfl
        subst h3
        obtain ⟨qh, rfl⟩ := Option.isSome_iff_exists.1 h4
        obtain ⟨kh, rfl⟩ := hho qh rfl
        have := h1 rfl; subst this
        have hb := slice_bounds3 (P := P) (w := w) true 0 0 lo 0 0 0 kh km hlo (by omega) (by omega) (by omega) (by omega)
        simp [Instr.sliceAt, Instr.slice, run_underlying hu, hb, hte.size]
    · cases he
  · -- a string
    rename_i s hk
    obtain rfl := relS_str hx
    have hu := hti.str hk
    split at he
    · simp only [Option.some.injEq, Prod.mk.injEq] at he
      obtain ⟨rfl, rfl⟩ := he
      obtain ⟨h0, h1, h2⟩ := hp
      rcases hmo with ⟨rfl, _⟩ | ⟨_, _, _, hmo⟩
      · have hb := slice_bounds (P := P) (w := w) false s.size s.size lo ho l _ hlo (hhi s.size) h0 h1 h2
        exact ⟨_, by simp [Instr.sliceAt, Instr.slice, run_underlying hu, hb], rfl⟩
      · cases hmo
    · cases he
  · -- an array
    rename_i n e id off hk
    obtain ⟨L, e1, rfl⟩ := hx
    have hu := hti.arr hk
    split at he
    · rename_i ie cs hie hcs
      have hte := ht e ie hie
      simp only [Option.some.injEq, Prod.mk.injEq] at he
      obtain ⟨rfl, rfl⟩ := he
      obtain ⟨h0, h1, h2, h3, h4⟩ := hp
      rcases hmo with ⟨rfl, _⟩ | ⟨_, _, _, hmo⟩
      · have hb := slice_bounds (P := P) (w := w) false n n lo ho l _ hlo (hhi n) h0 h1 h2
        refine ⟨_, by simp [Instr.sliceAt, Instr.sureAddr, run_underlying hu, hb, hte.size]; rfl, ?_⟩
        refine ⟨L, _, n - l.toNat, e1, rfl, by omega, by omega, by omega, ?_⟩
        by_cases hq : n - l.toNat = 0
        · exact .inl hq
        · refine .inr ?_
          have hh := (hr.has id L _ e1 hcs).1
          rw [if_neg (by omega), add_at]
          refine ⟨by congr 1; omega, ?_⟩
          have : l.toNat * ie.size + (n - l.toNat) * ie.size = n * ie.size := by rw [← Nat.add_mul]; congr 1; omega
          omega
      · cases hmo
    · cases he
  · cases he
end
end Go.Proofs.Ytjjhogleiolngaa
