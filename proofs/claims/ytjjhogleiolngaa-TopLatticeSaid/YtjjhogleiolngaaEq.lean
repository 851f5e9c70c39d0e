/- '==' on structs and arrays of numbers, bools and strings, whatever their nesting: cell by cell. No program stands here. -/
import Derived.Test.YtjjhogleiolngaaFit
import Derived.Laws.StructEq
namespace Go.Proofs.Ytjjhogleiolngaa
open Go.RowKit

/-- Is it a value of the kind, and no slice? -/
def okv : CK → Value → Bool
  | .int k, .int k' _ => decide (k' = k)
  | .bool, .bool _ => true
  | .str, .string _ => true
  | _, _ => false
/-- Are the cells of these kinds? -/
def oks : List CK → List Value → Bool
  | [], [] => true
  | k :: ks, v :: vs => okv k v && oks ks vs
  | _, _ => false
def eqv : Value → Value → Bool
  | .int _ a, .int _ b => a == b
  | .bool a, .bool b => a == b
  | .string a, .string b => a.toList == b.toList
  | _, _ => false
/-- Cell by cell. -/
def eqs : List Value → List Value → Bool
  | [], [] => true
  | a :: as, b :: bs => eqv a b && eqs as bs
  | _, _ => false
theorem oks_length : ∀ {ks : List CK} {vs : List Value}, oks ks vs = true → vs.length = ks.length
  | [], [], _ => rfl
  | [], _ :: _, h => by simp [oks] at h
  | _ :: _, [], h => by simp [oks] at h
  | k :: ks, v :: vs, h => by
    simp only [oks, Bool.and_eq_true] at h
    simp [oks_length h.2]
theorem oks_append : ∀ {ks ks' : List CK} {vs : List Value}, oks (ks ++ ks') vs = true → oks ks (vs.take ks.length) = true ∧ oks ks' (vs.drop ks.length) = true
  | [], ks', vs, h => by simpa [oks] using h
  | k :: ks, ks', [], h => by simp [oks] at h
  | k :: ks, ks', v :: vs, h => by
    simp only [List.cons_append, oks, Bool.and_eq_true] at h
    have := oks_append h.2
    simp [oks, h.1, this]
theorem eqs_append : ∀ {ks : List CK} {a b a' b' : List Value}, oks ks a = true → oks ks b = true → eqs (a ++ a') (b ++ b') = (eqs a b && eqs a' b')
  | [], [], [], _, _, _, _ => by simp [eqs]
  | k :: ks, v :: vs, u :: us, a', b', h1, h2 => by
    simp only [oks, Bool.and_eq_true] at h1 h2
    simp only [List.cons_append, eqs, eqs_append h1.2 h2.2, Bool.and_assoc]
  | [], _ :: _, _, _, _, h, _ => by simp [oks] at h
  | [], [], _ :: _, _, _, _, h => by simp [oks] at h
  | _ :: _, [], _, _, _, h, _ => by simp [oks] at h
  | _ :: _, _ :: _, [], _, _, _, h => by simp [oks] at h
theorem eqv_refl : ∀ {k : CK} {v : Value}, okv k v = true → eqv v v = true
  | .int _, .int _ _, _ => by simp [eqv]
  | .bool, .bool _, _ => by simp [eqv]
  | .str, .string _, _ => by simp [eqv]
theorem eqs_refl : ∀ {ks : List CK} {vs : List Value}, oks ks vs = true → eqs vs vs = true
  | [], [], _ => rfl
  | k :: ks, v :: vs, h => by
    simp only [oks, Bool.and_eq_true] at h
    simp [eqs, eqv_refl h.1, eqs_refl h.2]

/-- No field is named '_', and no type is one that the model stands in for. -/
def plainEq (P : Program) : Nat → TypeId → Bool
  | 0, _ => false
  | f + 1, t =>
    match P.underlying t with
    | some .bool | some (.int _) | some .string => true
    | some (.struct fs) => !P.stoodInHeld t && fs.toList.all fun fd => fd.name != "_" && plainEq P f fd.type
    | some (.array _ e) => plainEq P f e
    | _ => false

/-- A value of cells xs: an aggregate, or the one cell. -/
def Holds (P : Program) (t : TypeId) (xs : List Value) (v : Value) : Prop :=
  match P.underlying t with
  | some (.struct _) | some (.array _ _) => v = .agg xs.toArray
  | _ => xs = [v]

section
variable {P : Program}
theorem sizeOf_run {t : TypeId} {n : Nat} (h : P.cellsOf t = n) (hp : ∃ i, P.info? t = some i) (w : World) : (sizeOf t).run P w = .ok n w := by
  obtain ⟨i, hi⟩ := hp
  have : i.size = n := by simpa [Program.cellsOf, hi] using h
  simp [sizeOf, typeInfo, hi, this]
theorem info_of_under {t : TypeId} {d : TypeDesc} (h : P.underlying t = some d) : ∃ i, P.info? t = some i := by
  cases hq : P.info? t with
  | none => simp [Program.underlying, hq] at h
  | some i => exact ⟨i, rfl⟩
theorem info_of_under' (t : TypeId) {f : Nat} {ks : List CK} (h : flat P f t = some ks) : ∃ i, P.info? t = some i := by
  cases f with
  | zero => simp [flat] at h
  | succ f =>
    simp only [flat] at h
    cases hu : P.underlying t with
    | none => rw [hu] at h; simp at h
    | some d => exact info_of_under hu
theorem part_run {t : TypeId} {f : Nat} {ks : List CK} (hf : flat P f t = some ks) (hl : ks.length = P.cellsOf t) (xs : List Value) (o : Nat) (ho : oks ks ((xs.drop o).take ks.length) = true) (w : World) :
    ∃ v, (part t xs.toArray o).run P w = .ok v w ∧ Holds P t ((xs.drop o).take ks.length) v := by
  cases f with
  | zero => simp [flat] at hf
  | succ f =>
    have hlen := oks_length ho
    have e1 : ((xs.toArray).extract o (o + ks.length)) = ((xs.drop o).take ks.length).toArray := by simp [List.extract_toArray]
    have one : ks.length = 1 → ∃ v, xs[o]? = some v ∧ (xs.drop o).take ks.length = [v] := fun h1 => by
      rw [h1] at hlen ⊢
      have hlt : o < xs.length := by
        rw [List.length_take, List.length_drop] at hlen
        omega
      exact ⟨xs[o], List.getElem?_eq_getElem hlt, by rw [List.drop_eq_getElem_cons hlt]; rfl⟩
    have scalar : ∀ d, P.underlying t = some d → (match d with | .struct _ | .array _ _ => false | _ => true) = true → ks.length = 1 → ∃ v, (part t xs.toArray o).run P w = .ok v w ∧ Holds P t ((xs.drop o).take ks.length) v := fun d hd hs h1 => by
      obtain ⟨v, hv, he⟩ := one h1
      have hagg : (isAgg t).run P w = .ok false w := by
        unfold isAgg
        rw [Sem.run_bind, run_underlying hd w]
        cases d <;> simp_all
      refine ⟨v, by simp [part, hagg, hv], ?_⟩
      unfold Holds
      rw [hd]
      cases d <;> simp_all
    have agg : ∀ d, P.underlying t = some d → (match d with | .struct _ | .array _ _ => true | _ => false) = true → ∃ v, (part t xs.toArray o).run P w = .ok v w ∧ Holds P t ((xs.drop o).take ks.length) v := fun d hd hs => by
      have hagg : (isAgg t).run P w = .ok true w := by
        unfold isAgg
        rw [Sem.run_bind, run_underlying hd w]
        cases d <;> simp_all
      refine ⟨.agg ((xs.drop o).take ks.length).toArray, ?_, ?_⟩
      · simp only [part, Sem.run_bind, hagg, Result.andThen_ok, if_true, sizeOf_run hl.symm (info_of_under hd) w, Sem.run_pure, e1]
      · unfold Holds
        rw [hd]
        cases d <;> simp_all
    simp only [flat] at hf
    split at hf
    · rename_i hu; simp only [Option.some.injEq] at hf; subst hf; exact scalar _ hu rfl rfl
    · rename_i hu; simp only [Option.some.injEq] at hf; subst hf; exact scalar _ hu rfl rfl
    · rename_i hu; simp only [Option.some.injEq] at hf; subst hf; exact scalar _ hu rfl rfl
    · rename_i e hu
      simp only [Option.bind_eq_some_iff] at hf
      obtain ⟨ke, _, hf⟩ := hf
      split at hf
      · simp only [Option.some.injEq] at hf; subst hf; exact scalar _ hu rfl rfl
      · cases hf
    · rename_i fs hu; exact agg _ hu rfl
    · rename_i n e hu; exact agg _ hu rfl
    · cases hf

theorem fieldsOf_eq {t : TypeId} {fs : Array Field} (h : P.underlying t = some (.struct fs)) : P.fieldsOf t = fs := by
  unfold Program.fieldsOf
  rw [h]

theorem eq_fields {f d : Nat} (w : World) (IH : ∀ (t : TypeId) (ks : List CK) (a b : List Value) (x y : Value), flat P f t = some ks → plainEq P f t = true → oks ks a = true → oks ks b = true → Holds P t a x → Holds P t b y → (Op.equalIn d t x y).run P w = .ok (eqs a b) w)
    (xs ys : List Value) :
    ∀ (l : List Field) (zs : List (Nat × List CK)) (acc out : List CK),
      (l.mapM fun fd => (flat P f fd.type).bind fun ks => if ks.length = P.cellsOf fd.type then some (fd.offset, ks) else none) = some zs →
      (zs.foldlM (fun (acc : List CK) (x : Nat × List CK) => if x.1 = acc.length then some (acc ++ x.2) else none) acc) = some out →
      (l.all fun fd => fd.name != "_" && plainEq P f fd.type) = true → oks out xs = true → oks out ys = true →
      ∃ r : List CK, out = acc ++ r ∧ (Op.eqFields d xs.toArray ys.toArray l).run P w = .ok (eqs (xs.drop acc.length) (ys.drop acc.length)) w
  | [], zs, acc, out, h1, h2, _, ho1, ho2 => by
    simp at h1
    subst h1
    simp at h2
    subst h2
    refine ⟨[], by simp, ?_⟩
    have e1 : xs.drop acc.length = [] := by rw [List.drop_eq_nil_iff]; have := oks_length ho1; omega
    have e2 : ys.drop acc.length = [] := by rw [List.drop_eq_nil_iff]; have := oks_length ho2; omega
    rw [e1, e2]
    simp [Op.eqFields, eqs]
  | fd :: l, zs, acc, out, h1, h2, h3, ho1, ho2 => by
    rw [List.mapM_cons] at h1
    simp only [Option.bind_eq_bind, Option.bind_eq_some_iff, Option.pure_def, Option.some.injEq] at h1
    obtain ⟨y, ⟨ks, hks, hy⟩, ys', hys, rfl⟩ := h1
    simp only [List.all_cons, Bool.and_eq_true] at h3
    obtain ⟨⟨hn, hp⟩, h3⟩ := h3
    split at hy
    · rename_i hlen
      simp only [Option.some.injEq] at hy
      subst hy
      rw [List.foldlM_cons] at h2
      simp only [Option.bind_eq_bind, Option.bind_eq_some_iff] at h2
      obtain ⟨acc', ha, h2⟩ := h2
      split at ha
      · rename_i hoff
        simp only [Option.some.injEq] at ha
        subst ha
        obtain ⟨r, hr, hrun⟩ := eq_fields w IH xs ys l ys' (acc ++ ks) out hys h2 h3 ho1 ho2
        subst hr
        refine ⟨ks ++ r, by simp, ?_⟩
        have hoff' : fd.offset = acc.length := hoff
        rw [List.append_assoc] at ho1 ho2
        obtain ⟨_, g1⟩ := oks_append ho1
        obtain ⟨_, g2⟩ := oks_append ho2
        obtain ⟨q1, _⟩ := oks_append g1
        obtain ⟨q2, _⟩ := oks_append g2
        obtain ⟨v1, r1, v1h⟩ := part_run hks hlen xs fd.offset (by rw [hoff']; exact q1) w
        obtain ⟨v2, r2, v2h⟩ := part_run hks hlen ys fd.offset (by rw [hoff']; exact q2) w
        rw [hoff'] at v1h v2h
        have e := IH _ _ _ _ _ _ hks hp q1 q2 v1h v2h
        have hd : ∀ (zs : List Value), zs.drop acc.length = (zs.drop acc.length).take ks.length ++ zs.drop (acc ++ ks).length := fun zs => by
          rw [List.length_append, ← List.drop_drop, List.take_append_drop]
        rw [hd xs, hd ys, eqs_append q1 q2]
        have hn' : fd.name ≠ "_" := by simpa using hn
        simp only [Op.eqFields, hn', ne_eq, not_false_eq_true, if_true, Sem.run_bind, r1, r2, e, Result.andThen_ok, Sem.run_ite]
        cases hq : eqs ((xs.drop acc.length).take ks.length) ((ys.drop acc.length).take ks.length)
        · simp
        · simp only [Bool.not_true, Bool.false_eq_true, if_false, Bool.true_and, hrun]
      · cases ha
    · cases hy

theorem eq_array {f d : Nat} (w : World) {e : TypeId} {ks : List CK} (hks : flat P f e = some ks) (hlen : ks.length = P.cellsOf e) (hp : plainEq P f e = true)
    (IH : ∀ (t : TypeId) (ks : List CK) (a b : List Value) (x y : Value), flat P f t = some ks → plainEq P f t = true → oks ks a = true → oks ks b = true → Holds P t a x → Holds P t b y → (Op.equalIn d t x y).run P w = .ok (eqs a b) w)
    (xs ys : List Value) : ∀ (m o : Nat), oks (List.replicate m ks).flatten (xs.drop (o * ks.length)) = true → oks (List.replicate m ks).flatten (ys.drop (o * ks.length)) = true →
      (forIn (m := Sem) (List.range' o m 1) ((none, ()) : Option Bool × Unit) (fun i _r => do
        if !(← Op.equalIn d e (← part e xs.toArray (i * ks.length)) (← part e ys.toArray (i * ks.length))) then pure (.done (some false, ())) else pure (.yield (none, ())))).run P w =
      .ok (if eqs (xs.drop (o * ks.length)) (ys.drop (o * ks.length)) then (none, ()) else (some false, ())) w
  | 0, o, h1, h2 => by
    have l1 := oks_length h1
    have l2 := oks_length h2
    simp at l1 l2
    have e1 : xs.drop (o * ks.length) = [] := List.eq_nil_of_length_eq_zero (by simpa using l1)
    have e2 : ys.drop (o * ks.length) = [] := List.eq_nil_of_length_eq_zero (by simpa using l2)
    simp [e1, e2, eqs]
  | m + 1, o, h1, h2 => by
    rw [List.replicate_succ, List.flatten_cons] at h1 h2
    obtain ⟨q1, g1⟩ := oks_append h1
    obtain ⟨q2, g2⟩ := oks_append h2
    rw [List.drop_drop, show o * ks.length + ks.length = (o + 1) * ks.length by rw [Nat.add_mul, Nat.one_mul]] at g1 g2
    obtain ⟨v1, r1, v1h⟩ := part_run hks hlen xs (o * ks.length) q1 w
    obtain ⟨v2, r2, v2h⟩ := part_run hks hlen ys (o * ks.length) q2 w
    have e := IH _ _ _ _ _ _ hks hp q1 q2 v1h v2h
    have hd : ∀ (zs : List Value), zs.drop (o * ks.length) = (zs.drop (o * ks.length)).take ks.length ++ zs.drop ((o + 1) * ks.length) := fun zs => by
      rw [show (o + 1) * ks.length = o * ks.length + ks.length by rw [Nat.add_mul, Nat.one_mul], ← List.drop_drop, List.take_append_drop]
    rw [hd xs, hd ys, eqs_append q1 q2]
    have hrun := eq_array w hks hlen hp IH xs ys m (o + 1) g1 g2
    rw [List.range'_succ, List.forIn_cons]
    simp only [Sem.run_bind, r1, r2, e, Result.andThen_ok, Sem.run_ite]
    cases hq : eqs ((xs.drop (o * ks.length)).take ks.length) ((ys.drop (o * ks.length)).take ks.length)
    · simp
    · simpa using hrun

theorem eq_flat : ∀ (f : Nat) (t : TypeId) (ks : List CK) (d : Nat) (a b : List Value) (x y : Value) (w : World), f ≤ d → flat P f t = some ks → plainEq P f t = true → oks ks a = true → oks ks b = true → Holds P t a x → Holds P t b y →
    (Op.equalIn d t x y).run P w = .ok (eqs a b) w := by
  intro f
  induction f with
  | zero => intro t ks d a b x y w _ h; simp [flat] at h
  | succ f ih =>
    intro t ks d a b x y w hd hf hp ha hb hx hy
    obtain ⟨d, rfl⟩ : ∃ e, d = e + 1 := ⟨d - 1, by omega⟩
    have IH := fun t ks a b x y => ih t ks d a b x y w (by omega)
    simp only [plainEq] at hp
    simp only [flat] at hf
    unfold Holds at hx hy
    split at hf
    · rename_i hu
      simp only [Option.some.injEq] at hf
      subst hf
      rw [hu] at hx hy
      simp only at hx hy
      subst hx; subst hy
      simp only [oks, Bool.and_true] at ha hb
      cases x <;> simp [okv] at ha
      cases y <;> simp [okv] at hb
      simp [eqs, eqv, run_equalIn_bool' w d t _ _ hu]
    · rename_i k hu
      simp only [Option.some.injEq] at hf
      subst hf
      rw [hu] at hx hy
      simp only at hx hy
      subst hx; subst hy
      simp only [oks, Bool.and_true] at ha hb
      cases x <;> simp [okv] at ha
      cases y <;> simp [okv] at hb
      subst ha; subst hb
      simp [eqs, eqv, run_equalIn_int w d t _ _ _ _ hu]
    · rename_i hu
      simp only [Option.some.injEq] at hf
      subst hf
      rw [hu] at hx hy
      simp only at hx hy
      subst hx; subst hy
      simp only [oks, Bool.and_true] at ha hb
      cases x <;> simp [okv] at ha
      cases y <;> simp [okv] at hb
      simp [eqs, eqv, run_equalIn_string w d t _ _ hu]
    · rename_i e hu
      rw [hu] at hp
      simp at hp
    · rename_i fs hu
      rw [hu] at hx hy hp
      simp only [Bool.and_eq_true, Bool.not_eq_true'] at hp
      simp only at hx hy
      subst hx; subst hy
      simp only [Option.bind_eq_some_iff] at hf
      obtain ⟨l, hl, out, hf, ho⟩ := hf
      split at ho
      · simp only [Option.some.injEq] at ho
        subst ho
        rw [run_equalIn_struct w d t _ _ (by rw [fieldsOf_eq hu]; exact hu) hp.1, fieldsOf_eq hu]
        obtain ⟨r, hr, hrun⟩ := eq_fields w IH a b fs.toList l [] out hl hf hp.2 ha hb
        simpa using hrun
      · cases ho
    · rename_i n e hu
      rw [hu] at hx hy hp
      simp only at hx hy hp
      subst hx; subst hy
      simp only [Option.bind_eq_some_iff] at hf
      obtain ⟨ke, hke, hf⟩ := hf
      split at hf
      · rename_i hlen
        simp only [Option.some.injEq] at hf
        subst hf
        have hrun := eq_array w hke hlen.1 hp IH a b n 0 (by simpa using ha) (by simpa using hb)
        simp only [Op.equalIn, Sem.run_bind, run_underlying hu, Result.andThen_ok, sizeOf_run hlen.1.symm (info_of_under' e hke) w]
        rw [Std.Legacy.Range.forIn_eq_forIn_range']
        simp only [Std.Legacy.Range.size, Nat.sub_zero, Nat.add_sub_cancel, Nat.div_one]
        rw [hrun]
        simp only [Nat.zero_mul, List.drop_zero]
        cases eqs a b <;> simp
      · cases hf
    · cases hf
theorem run_eqin_flat {t : TypeId} {ks : List CK} {a b : Array Value} (f : Nat) (hf : flat P f t = some ks) (hp : plainEq P f t = true) (hg : f ≤ 10000) (ha : oks ks a.toList = true) (hb : oks ks b.toList = true)
    (ht : (∃ fs, P.underlying t = some (.struct fs)) ∨ ∃ n e, P.underlying t = some (.array n e)) (w : World) : (Op.equalIn 10000 t (.agg a) (.agg b)).run P w = .ok (eqs a.toList b.toList) w := by
  refine eq_flat f t ks 10000 a.toList b.toList _ _ w hg hf hp ha hb ?_ ?_ <;> unfold Holds <;> rcases ht with ⟨fs, h⟩ | ⟨n, e, h⟩ <;> rw [h] <;> simp
end
end Go.Proofs.Ytjjhogleiolngaa
