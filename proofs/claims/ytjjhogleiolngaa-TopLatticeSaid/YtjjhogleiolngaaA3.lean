/- The abstract machine: what the computing and reading operations yield is what the model's yield. No program stands here. -/
import Derived.Test.YtjjhogleiolngaaA2
import Derived.Laws.Strings
namespace Go.Proofs.Ytjjhogleiolngaa
open Go.RowKit

section
variable {P : Program} {tab : TypeId → Option TI} {ρ : Map} {w : World}

theorem relS_bool {b : Bool} {v : Value} (h : relC ρ (.sc (.bool b)) v) : v = .bool b := h
theorem relS_int {k : IntKind} {n : Int} {v : Value} (h : relC ρ (.sc (.int k n)) v) : v = .int k n := h
theorem relS_str {s : ByteArray} {v : Value} (h : relC ρ (.sc (.str s)) v) : v = .string s := h

theorem intBeq (a b : Int) : (a == b) = decide (a = b) := by rw [Bool.eq_iff_iff]; simp
theorem binI_sound (t : TypeId) (op : BinOp) (k k' : IntKind) (a b : Int) (h : (binI op k k' a b).1) :
    ∃ u, (binOp op t (.int k a) (.int k' b)).run P w = .ok u w ∧ relS ρ (binI op k k' a b).2 u := by
  cases op <;> simp only [binI] at h ⊢ <;> first
    | (subst h; refine ⟨_, ?_, rfl⟩; simp [binOp, Op.intArith, Op.intBits, Op.intCmp, bitsOf, intBeq, bne]; done)
    | (obtain ⟨rfl, hb⟩ := h; refine ⟨_, ?_, rfl⟩; simp [binOp, Op.intDiv, hb]; done)
    | (refine ⟨_, ?_, rfl⟩; have hb : ¬ b < 0 := by omega
       simp [binOp, Op.shift, hb, shlOf, shrOf]; done)

theorem bytes_eq (s t : ByteArray) : (s.toList == t.toList) = decide (s = t) := by
  rw [Bool.eq_iff_iff]
  simp only [beq_iff_eq, decide_eq_true_eq]
  constructor
  · intro h
    rw [ByteArray.toList_eq, ByteArray.toList_eq] at h
    have : s.data = t.data := Array.toList_inj.1 h
    cases s; cases t; simp_all
  · rintro rfl; rfl

theorem binS_sound (t : TypeId) (op : BinOp) (s u : ByteArray) {p : Prop} {v : Sc} (hb : binS op s u = some (p, v)) (h : p) :
    ∃ x, (binOp op t (.string s) (.string u)).run P w = .ok x w ∧ relS ρ v x := by
  cases op <;> simp only [binS, Option.some.injEq, Prod.mk.injEq, reduceCtorEq] at hb <;> obtain ⟨rfl, rfl⟩ := hb <;> refine ⟨_, ?_, rfl⟩
  · have h1 : ¬ (IntKind.i64.max < ((s.size + u.size : Nat) : Int)) := by
      have : IntKind.i64.max = 9223372036854775807 := by decide
      rw [this]; omega
    simp only [binOp, Op.stringOp, gt_iff_lt, if_neg h1, Sem.run_pure]
  all_goals simp only [binOp, Op.stringOp, Sem.run_pure, bytes_eq]

theorem okS_okv {k : CK} {x : Sc} {u : Value} (h : okS k x = true) (hr : relS ρ x u) : okv k u = true := by
  unfold okS at h
  split at h <;> simp_all [relS, okv]
theorem okSs_oks : ∀ {ks : List CK} {xs : List Sc} {us : List Value}, okSs ks xs = true → relL ρ xs us.toArray → oks ks us = true
  | [], [], us, _, hr => by have := hr.1; cases us <;> simp_all [oks]
  | k :: ks, x :: xs, us, h, hr => by
    simp only [okSs, Bool.and_eq_true] at h
    cases us with
    | nil => have := hr.1; simp at this
    | cons u us =>
      obtain ⟨u', hu, r⟩ := hr.2 0 x rfl
      simp at hu; subst hu
      simp only [oks, Bool.and_eq_true]
      refine ⟨okS_okv h.1 r, okSs_oks h.2 ⟨by have := hr.1; simpa using this, fun j y hj => ?_⟩⟩
      obtain ⟨v, hv, rv⟩ := hr.2 (j + 1) y (by simpa using hj)
      exact ⟨v, by simpa using hv, rv⟩
  | [], _ :: _, _, h, _ => by simp [okSs] at h
  | _ :: _, [], _, h, _ => by simp [okSs] at h
theorem eqS_eqv {k : CK} {x y : Sc} {u v : Value} (h1 : okS k x = true) (h2 : okS k y = true) (r1 : relS ρ x u) (r2 : relS ρ y v) : eqv u v = eqS x y := by
  unfold okS at h1
  split at h1
  · unfold okS at h2; split at h2 <;> simp_all [relS, eqv, eqS, intBeq]
  · unfold okS at h2; split at h2 <;> simp_all [relS, eqv, eqS]
  · unfold okS at h2; split at h2 <;> simp_all [relS, eqv, eqS, bytes_eq]
  · cases h1
theorem eqSs_eqs : ∀ {ks : List CK} {xs ys : List Sc} {us vs : List Value}, okSs ks xs = true → okSs ks ys = true → relL ρ xs us.toArray → relL ρ ys vs.toArray → eqs us vs = eqSs xs ys
  | [], [], [], us, vs, _, _, h3, h4 => by
    have a := h3.1; have b := h4.1
    cases us <;> cases vs <;> simp_all [eqs, eqSs]
  | k :: ks, x :: xs, y :: ys, us, vs, h1, h2, h3, h4 => by
    simp only [okSs, Bool.and_eq_true] at h1 h2
    cases us with
    | nil => have := h3.1; simp at this
    | cons u us =>
      cases vs with
      | nil => have := h4.1; simp at this
      | cons v vs =>
        obtain ⟨u', hu, r1⟩ := h3.2 0 x rfl
        simp at hu; subst hu
        obtain ⟨v', hv, r2⟩ := h4.2 0 y rfl
        simp at hv; subst hv
        have t1 : relL ρ xs us.toArray := ⟨by have := h3.1; simpa using this, fun j z hj => by
          obtain ⟨q, hq, rq⟩ := h3.2 (j + 1) z (by simpa using hj); exact ⟨q, by simpa using hq, rq⟩⟩
        have t2 : relL ρ ys vs.toArray := ⟨by have := h4.1; simpa using this, fun j z hj => by
          obtain ⟨q, hq, rq⟩ := h4.2 (j + 1) z (by simpa using hj); exact ⟨q, by simpa using hq, rq⟩⟩
        simp only [eqs, eqSs, eqS_eqv h1.1 h2.1 r1 r2, eqSs_eqs h1.2 h2.2 t1 t2]
  | [], [], _ :: _, _, _, _, h, _, _ => by simp [okSs] at h
  | [], _ :: _, _, _, _, h, _, _, _ => by simp [okSs] at h
  | _ :: _, [], _, _, _, h, _, _, _ => by simp [okSs] at h
  | _ :: _, _ :: _, [], _, _, _, h, _, _ => by simp [okSs] at h

theorem eqGuard_plain (op : BinOp) (t : TypeId) (x y : Operand) (a b : Value) (h : match a, b with | .nilIface, .nilIface => False | .agg _, .agg _ => P.eqGuardType P.depth t = false | _, _ => True) :
    (eqGuard op t x y a b).run P w = .ok () w := by
  unfold eqGuard
  cases op <;> simp <;> cases a <;> first | rfl | (cases b <;> first | rfl | (exact h.elim) | (simp only [] at h; simp [h]))

theorem flt_of {t : TypeId} {i : TI} (h : TOk P t i) {ks : List CK} (hk : i.flat = some ks) : flat P 20 t = some ks ∧ plainEq P 20 t = true ∧ P.eqGuardType P.depth t = false := by
  have := h.flt
  rw [hk] at this
  simp only [flatB, Bool.and_eq_true, Bool.not_eq_true'] at this
  refine ⟨?_, this.1.2, this.2⟩
  have e := this.1.1
  split at e
  · rename_i ks' hks; rw [hks, cksB_eq e]
  · cases e


section
variable {P : Program} {w : World} {t e : TypeId}
theorem es1 {t : TypeId} {e : TypeId} (h : P.underlying t = some (.slice e)) {a : Addr} {n c n2 c2 : Nat} : (Op.equal t (.slice (some a) n c) (.slice none n2 c2)).run P w = .ok false w := by
  show (Op.equalIn (9999 + 1) _ _ _).run P w = _
  unfold Op.equalIn
  simp [run_underlying h]
theorem es2 {t : TypeId} {e : TypeId} (h : P.underlying t = some (.slice e)) {a : Addr} {n c n2 c2 : Nat} : (Op.equal t (.slice none n2 c2) (.slice (some a) n c)).run P w = .ok false w := by
  show (Op.equalIn (9999 + 1) _ _ _).run P w = _
  unfold Op.equalIn
  simp [run_underlying h]
theorem es3 {t : TypeId} {e : TypeId} (h : P.underlying t = some (.slice e)) {n c n2 c2 : Nat} : (Op.equal t (.slice none n2 c2) (.slice none n c)).run P w = .ok true w := by
  show (Op.equalIn (9999 + 1) _ _ _).run P w = _
  unfold Op.equalIn
  simp [run_underlying h]
theorem ep1 {t : TypeId} {e : TypeId} (h : P.underlying t = some (.pointer e)) {a : Addr} : (Op.equal t (.pointer (some a)) (.pointer none)).run P w = .ok false w := by
  show (Op.equalIn (9999 + 1) _ _ _).run P w = _
  unfold Op.equalIn
  simp [run_underlying h]
theorem ep2 {t : TypeId} {e : TypeId} (h : P.underlying t = some (.pointer e)) {a : Addr} : (Op.equal t (.pointer none) (.pointer (some a))).run P w = .ok false w := by
  show (Op.equalIn (9999 + 1) _ _ _).run P w = _
  unfold Op.equalIn
  simp [run_underlying h]
theorem ep3 {t : TypeId} {e : TypeId} (h : P.underlying t = some (.pointer e)) : (Op.equal t (.pointer none) (.pointer none)).run P w = .ok true w := by
  show (Op.equalIn (9999 + 1) _ _ _).run P w = _
  unfold Op.equalIn
  simp [run_underlying h]
theorem ef1 {t : TypeId} {x y : Array TypeId} {z : Bool} (h : P.underlying t = some (.func x y z)) {f : Fn} {p q : Array Value} : (Op.equal t (.func f p q) (.nilFunc)).run P w = .ok false w := by
  show (Op.equalIn (9999 + 1) _ _ _).run P w = _
  unfold Op.equalIn
  simp [run_underlying h]
theorem ef2 {t : TypeId} {x y : Array TypeId} {z : Bool} (h : P.underlying t = some (.func x y z)) {f : Fn} {p q : Array Value} : (Op.equal t (.nilFunc) (.func f p q)).run P w = .ok false w := by
  show (Op.equalIn (9999 + 1) _ _ _).run P w = _
  unfold Op.equalIn
  simp [run_underlying h]
theorem ef3 {t : TypeId} {x y : Array TypeId} {z : Bool} (h : P.underlying t = some (.func x y z)) : (Op.equal t (.nilFunc) (.nilFunc)).run P w = .ok true w := by
  show (Op.equalIn (9999 + 1) _ _ _).run P w = _
  unfold Op.equalIn
  simp [run_underlying h]
end

/-- '==' -/
theorem eqC_sound {t : TypeId} {i : TI} (ht : TOk P t i) (want : Bool) {x y : AC} {a b : Value} (ha : relC ρ x a) (hb : relC ρ y b) {p : Prop} {v : Sc} (he : eqC i want x y = some (p, v)) (hp : p) :
    (∃ r : Bool, (Op.equal t a b).run P w = .ok r w ∧ v = .bool (r == want)) ∧ (∀ (op : BinOp) (q r : Operand), (eqGuard op t q r a b).run P w = .ok () w) ∧
    ((∀ k n, a ≠ .int k n) ∧ (∀ k n, a ≠ .float k n) ∧ (∀ k n m, a ≠ .complex k n m) ∧ (∀ s, a ≠ .string s)) := by
  unfold eqC at he
  split at he
  · -- bools
    split at he
    · rename_i hk
      simp only [Option.some.injEq, Prod.mk.injEq] at he
      obtain ⟨rfl, rfl⟩ := he
      obtain rfl := relS_bool ha
      obtain rfl := relS_bool hb
      refine ⟨⟨_, ?_, rfl⟩, fun op q r => eqGuard_plain _ _ _ _ _ _ trivial, by simp⟩
      show (Op.equalIn (9999 + 1) _ _ _).run P w = _
      unfold Op.equalIn
      simp [run_underlying (ht.bool hk)]
    · cases he
  · -- aggregates
    obtain ⟨us, rfl, h1⟩ := ha
    obtain ⟨vs, rfl, h2⟩ := hb
    have go : ∀ {ks : List CK}, i.flat = some ks → ((∃ fs, P.underlying t = some (.struct fs)) ∨ ∃ n e, P.underlying t = some (.array n e)) → some (okSs ks ‹List Sc› = true ∧ okSs ks ‹List Sc› = true, Sc.bool (eqSs ‹List Sc› ‹List Sc› == want)) = some (p, v) → True := fun _ _ _ => trivial
    clear go
    rename_i cs ds
    have key : ∀ {ks : List CK}, i.flat = some ks → ((∃ fs, P.underlying t = some (.struct fs)) ∨ ∃ n e, P.underlying t = some (.array n e)) → okSs ks cs = true → okSs ks ds = true →
        (Op.equal t (.agg us) (.agg vs)).run P w = .ok (eqSs cs ds) w ∧ P.eqGuardType P.depth t = false := fun {ks} hf hu o1 o2 => by
      obtain ⟨f1, f2, f3⟩ := flt_of ht hf
      have r1 : relL ρ cs us.toList.toArray := by simpa using h1
      have r2 : relL ρ ds vs.toList.toArray := by simpa using h2
      have e := run_eqin_flat (P := P) 20 f1 f2 (by omega) (okSs_oks o1 r1) (okSs_oks o2 r2) hu w
      rw [eqSs_eqs o1 o2 r1 r2] at e
      exact ⟨e, f3⟩
    split at he
    · rename_i ks fs hf hk
      simp only [Option.some.injEq, Prod.mk.injEq] at he
      obtain ⟨rfl, rfl⟩ := he
      obtain ⟨F, hF, _⟩ := ht.struct hk
      obtain ⟨e1, e2⟩ := key hf (.inl ⟨F, hF⟩) hp.1 hp.2
      exact ⟨⟨_, e1, rfl⟩, fun op q r => eqGuard_plain _ _ _ _ _ _ e2, by simp⟩
    · rename_i ks n e hf hk
      simp only [Option.some.injEq, Prod.mk.injEq] at he
      obtain ⟨rfl, rfl⟩ := he
      obtain ⟨e1, e2⟩ := key hf (.inr ⟨_, _, ht.arr hk⟩) hp.1 hp.2
      exact ⟨⟨_, e1, rfl⟩, fun op q r => eqGuard_plain _ _ _ _ _ _ e2, by simp⟩
    · cases he
  · split at he
    · rename_i hk
      simp only [Option.some.injEq, Prod.mk.injEq] at he
      obtain ⟨rfl, rfl⟩ := he; obtain rfl := ha; obtain rfl := hb
      exact ⟨⟨true, es3 (ht.slice hk), by cases want <;> rfl⟩, fun op q r => eqGuard_plain _ _ _ _ _ _ trivial, by simp⟩
    · cases he
  · split at he
    · rename_i hk
      simp only [Option.some.injEq, Prod.mk.injEq] at he
      obtain ⟨rfl, rfl⟩ := he; obtain ⟨_, _, _, _, rfl, _⟩ := ha; obtain rfl := hb
      exact ⟨⟨false, es1 (ht.slice hk), by cases want <;> rfl⟩, fun op q r => eqGuard_plain _ _ _ _ _ _ trivial, by simp⟩
    · cases he
  · split at he
    · rename_i hk
      simp only [Option.some.injEq, Prod.mk.injEq] at he
      obtain ⟨rfl, rfl⟩ := he; obtain rfl := ha; obtain ⟨_, _, _, _, rfl, _⟩ := hb
      exact ⟨⟨false, es2 (ht.slice hk), by cases want <;> rfl⟩, fun op q r => eqGuard_plain _ _ _ _ _ _ trivial, by simp⟩
    · cases he
  · split at he
    · rename_i hk
      simp only [Option.some.injEq, Prod.mk.injEq] at he
      obtain ⟨rfl, rfl⟩ := he; obtain ⟨_, rfl⟩ := ha; obtain rfl := hb
      exact ⟨⟨false, es1 (ht.slice hk), by cases want <;> rfl⟩, fun op q r => eqGuard_plain _ _ _ _ _ _ trivial, by simp⟩
    · cases he
  · split at he
    · rename_i hk
      simp only [Option.some.injEq, Prod.mk.injEq] at he
      obtain ⟨rfl, rfl⟩ := he; obtain rfl := ha; obtain ⟨_, rfl⟩ := hb
      exact ⟨⟨false, es2 (ht.slice hk), by cases want <;> rfl⟩, fun op q r => eqGuard_plain _ _ _ _ _ _ trivial, by simp⟩
    · cases he
  · split at he
    · rename_i hk
      simp only [Option.some.injEq, Prod.mk.injEq] at he
      obtain ⟨rfl, rfl⟩ := he; obtain ⟨e, hu⟩ := ht.ptr hk; obtain rfl := ha; obtain rfl := hb
      exact ⟨⟨true, ep3 hu, by cases want <;> rfl⟩, fun op q r => eqGuard_plain _ _ _ _ _ _ trivial, by simp⟩
    · cases he
  · split at he
    · rename_i hk
      simp only [Option.some.injEq, Prod.mk.injEq] at he
      obtain ⟨rfl, rfl⟩ := he; obtain ⟨e, hu⟩ := ht.ptr hk; obtain ⟨_, _, rfl⟩ := ha; obtain rfl := hb
      exact ⟨⟨false, ep1 hu, by cases want <;> rfl⟩, fun op q r => eqGuard_plain _ _ _ _ _ _ trivial, by simp⟩
    · cases he
  · split at he
    · rename_i hk
      simp only [Option.some.injEq, Prod.mk.injEq] at he
      obtain ⟨rfl, rfl⟩ := he; obtain ⟨e, hu⟩ := ht.ptr hk; obtain rfl := ha; obtain ⟨_, _, rfl⟩ := hb
      exact ⟨⟨false, ep2 hu, by cases want <;> rfl⟩, fun op q r => eqGuard_plain _ _ _ _ _ _ trivial, by simp⟩
    · cases he
  · split at he
    · rename_i hk
      simp only [Option.some.injEq, Prod.mk.injEq] at he
      obtain ⟨rfl, rfl⟩ := he; obtain ⟨e, e2, e3, hu⟩ := ht.func hk; obtain rfl := ha; obtain rfl := hb
      exact ⟨⟨true, ef3 hu, by cases want <;> rfl⟩, fun op q r => eqGuard_plain _ _ _ _ _ _ trivial, by simp⟩
    · cases he
  · split at he
    · rename_i hk
      simp only [Option.some.injEq, Prod.mk.injEq] at he
      obtain ⟨rfl, rfl⟩ := he; obtain ⟨e, e2, e3, hu⟩ := ht.func hk; obtain ⟨_, rfl, _⟩ := ha; obtain rfl := hb
      exact ⟨⟨false, ef1 hu, by cases want <;> rfl⟩, fun op q r => eqGuard_plain _ _ _ _ _ _ trivial, by simp⟩
    · cases he
  · split at he
    · rename_i hk
      simp only [Option.some.injEq, Prod.mk.injEq] at he
      obtain ⟨rfl, rfl⟩ := he; obtain ⟨e, e2, e3, hu⟩ := ht.func hk; obtain rfl := ha; obtain ⟨_, rfl, _⟩ := hb
      exact ⟨⟨false, ef2 hu, by cases want <;> rfl⟩, fun op q r => eqGuard_plain _ _ _ _ _ _ trivial, by simp⟩
    · cases he
  · cases he

end
end Go.Proofs.Ytjjhogleiolngaa
