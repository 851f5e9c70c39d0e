/- How the arguments of a law lie in memory: flat rows of cells, whatever structs, arrays and slices they are made of. No program stands here. -/
import Derived.ProofKit
import Derived.OpenShut
import Derived.Deep.Slices
import Derived.Below
import Derived.Deep.Draws
namespace Go.Proofs.Ytjjhogleiolngaa
open Go.RowKit Go.ChangeShapes Go.WideShapes Go.ChangeAt

/-- What kind of value a cell holds; a slice: the kinds of the cells of one element. -/
inductive CK where
  | int (k : IntKind)
  | bool
  | str
  | slice (ks : List CK)

/-- The kinds of the cells of a type. -/
def flat (P : Program) : Nat → TypeId → Option (List CK)
  | 0, _ => none
  | f + 1, t =>
    match P.underlying t with
    | some .bool => some [.bool]
    | some (.int k) => some [.int k]
    | some .string => some [.str]
    | some (.slice e) => (flat P f e).bind fun ks => if ks.length = P.cellsOf e then some [.slice ks] else none
    | some (.struct fs) => (fs.toList.mapM fun fd => (flat P f fd.type).bind fun ks => if ks.length = P.cellsOf fd.type then some (fd.offset, ks) else none).bind fun l =>
        l.foldlM (fun (acc : List CK) (x : Nat × List CK) => if x.1 = acc.length then some (acc ++ x.2) else none) [] |>.bind fun out => if out.length = P.cellsOf t then some out else none
    | some (.array n e) => (flat P f e).bind fun ks => if ks.length = P.cellsOf e ∧ n * ks.length = P.cellsOf t then some (List.replicate n ks).flatten else none
    | _ => none

mutual
/-- The cells cs hold values of the kinds ks. -/
inductive Fit (w : World) : List CK → List Value → Prop
  | nil : Fit w [] []
  | cons {k : CK} {ks : List CK} {v : Value} {vs : List Value} : Fit1 w k v → Fit w ks vs → Fit w (k :: ks) (v :: vs)
inductive Fit1 (w : World) : CK → Value → Prop
  | int {k : IntKind} {n : Int} : (Lit.int k n).wf = true → Fit1 w (.int k) (.int k n)
  | bool {b : Bool} : Fit1 w .bool (.bool b)
  | str {s : ByteArray} : s.size ≤ maxLen → Fit1 w .str (.string s)
  | nl {ks : List CK} : Fit1 w (.slice ks) (.slice none 0 0)
  | sl {ks : List CK} {a : Addr} {n c : Nat} {rows : Nat → List Value} : n ≤ c → c ≤ maxLen → (0 < c → 0 < ks.length → ∃ v, w.cell? a = some v) → (∀ i, i < n → Fit w ks (rows i)) →
      (∀ i, i < n → ∀ j v, (rows i)[j]? = some v → w.cell? (a.add (i * ks.length + j)) = some v) → Fit1 w (.slice ks) (.slice (some a) n c)
end

theorem Fit.length {w : World} : ∀ {ks : List CK} {cs : List Value}, Fit w ks cs → cs.length = ks.length
  | _, _, .nil => rfl
  | _, _, .cons _ h => by simp [Fit.length h]
theorem Fit.append {w : World} : ∀ {ks ks' : List CK} {cs cs' : List Value}, Fit w ks cs → Fit w ks' cs' → Fit w (ks ++ ks') (cs ++ cs')
  | _, _, _, _, .nil, h => by simpa using h
  | _, _, _, _, .cons h1 h, h' => .cons h1 (h.append h')

section
variable {H : Type} {enc : TypeId × Value → H} {P : Program} {w : World} {base : Nat} {spare : Nat → Bool} {held : Bool}

theorem fit_fields {fuel : Nat} {cs : List Value} (IH : ∀ (t : TypeId) (f : Nat) (ks : List CK) (cs : List Value) (x : DataW H × List MemPlace), flat P f t = some ks → DataW.trod enc P w base spare held fuel t cs = some x → Fit w ks cs) (f : Nat) :
    ∀ (l : List Field) (xs : List (Nat × List CK)) (acc : List CK) (out : List CK),
      (l.mapM fun fd => (flat P f fd.type).bind fun ks => if ks.length = P.cellsOf fd.type then some (fd.offset, ks) else none) = some xs →
      (xs.foldlM (fun (acc : List CK) (x : Nat × List CK) => if x.1 = acc.length then some (acc ++ x.2) else none) acc) = some out →
      (∀ fd ∈ l, ∃ x, DataW.trod enc P w base spare held fuel fd.type ((cs.drop fd.offset).take (P.cellsOf fd.type)) = some x) →
      out.length ≤ cs.length → Fit w acc (cs.take acc.length) → Fit w out (cs.take out.length)
  | [], xs, acc, out, h1, h2, _, _, h5 => by
    simp at h1
    subst h1
    simp at h2
    subst h2
    exact h5
  | fd :: l, xs, acc, out, h1, h2, h3, h4, h5 => by
    rw [List.mapM_cons] at h1
    simp only [Option.bind_eq_bind, Option.bind_eq_some_iff, Option.pure_def, Option.some.injEq] at h1
    obtain ⟨y, ⟨ks, hks, hy⟩, ys, hys, rfl⟩ := h1
    split at hy
    · rename_i hlen
      simp only [Option.some.injEq] at hy
      subst hy
      rw [List.foldlM_cons] at h2
      simp only [Option.bind_eq_bind, Option.bind_eq_some_iff] at h2
      obtain ⟨acc', ha, h2⟩ := h2
      split at ha
      · rename_i hoff
        simp only [Option.some.injEq] at ha
        subst ha
        obtain ⟨x, hx⟩ := h3 fd (by simp)
        have hf := IH _ _ _ _ _ hks hx
        refine fit_fields IH f l ys (acc ++ ks) out hys h2 (fun g hg => h3 g (by simp [hg])) h4 ?_
        have := Fit.append h5 hf
        have e : cs.take (acc ++ ks).length = cs.take acc.length ++ (cs.drop fd.offset).take (P.cellsOf fd.type) := by
          rw [List.length_append, List.take_add, hoff, hlen]
        rw [e]
        exact this
      · cases ha
    · cases hy

theorem spot_of {cs' : List Value} {a : Addr} {k : Nat} (h : w.cells? base a k = some cs') (hk : 0 < k) : ∃ v, w.cell? a = some v := by
  obtain ⟨_, hcl, hat⟩ := World.cells?_some h
  have h0 := hat 0 (by omega)
  rw [List.getElem?_eq_getElem (by omega)] at h0
  exact ⟨_, h0⟩
theorem fit_of_trod (hsp : ∀ b, spare b = true) : ∀ (fuel : Nat) (t : TypeId) (f : Nat) (ks : List CK) (cs : List Value) (x : DataW H × List MemPlace), flat P f t = some ks → DataW.trod enc P w base spare held fuel t cs = some x → Fit w ks cs := by
  intro fuel
  induction fuel with
  | zero => intro t f ks cs x _ h; simp [DataW.trod] at h
  | succ fuel ih =>
    intro t f ks cs x hf h
    cases f with
    | zero => simp [flat] at hf
    | succ f =>
      simp only [flat] at hf
      split at hf
      · rename_i hu
        simp only [Option.some.injEq] at hf
        subst hf
        obtain ⟨b, rfl, _⟩ := DataW.trod_bool hu h
        exact .cons .bool .nil
      · rename_i k hu
        simp only [Option.some.injEq] at hf
        subst hf
        obtain ⟨n, rfl, _, hw⟩ := DataW.trod_int hu h
        exact .cons (.int hw) .nil
      · rename_i hu
        simp only [Option.some.injEq] at hf
        subst hf
        obtain ⟨s, rfl, _, hs⟩ := DataW.trod_string hu h
        exact .cons (.str hs) .nil
      · rename_i e hu
        simp only [Option.bind_eq_some_iff] at hf
        obtain ⟨ke, hke, hf⟩ := hf
        split at hf
        · rename_i hlen
          simp only [Option.some.injEq] at hf
          subst hf
          rcases DataW.trod_slice hu h with ⟨rfl, _⟩ | ⟨a, len, cap, elems, rest, n, hn, rfl, _, hb, hl, hm, hel, hi, hrs, _⟩
          · exact .cons .nl .nil
          · simp only [Nat.add_right_cancel_iff] at hn
            subst hn
            have hrow : ∀ i, i < len → ∃ cs', w.cells? base (a.add (i * P.cellsOf e)) (P.cellsOf e) = some cs' ∧ Fit w ke cs' := fun i hil => by
              have := hi i hil
              rw [List.getElem?_eq_getElem (by omega), Option.bind_eq_some_iff] at this
              obtain ⟨cs', h1, h2⟩ := this
              exact ⟨cs', h1, ih _ _ _ _ _ hke h2⟩
            have hspot : 0 < cap → 0 < ke.length → ∃ v, w.cell? a = some v := fun h0 hk => by
              by_cases hl0 : 0 < len
              · obtain ⟨cs', h1, _⟩ := hrow 0 hl0
                rw [Nat.zero_mul] at h1
                exact spot_of h1 (by omega)
              · obtain rfl : len = 0 := by omega
                obtain ⟨hrl, hr⟩ := hrs (hsp _)
                have := hr 0 (by omega)
                rw [List.getElem?_eq_getElem (by omega), Option.bind_eq_some_iff] at this
                obtain ⟨cs', h1, _⟩ := this
                rw [Nat.zero_mul] at h1
                exact spot_of h1 (by omega)
            refine .cons (.sl (rows := fun i => (w.cells? base (a.add (i * P.cellsOf e)) (P.cellsOf e)).getD []) hl hm hspot (fun i hil => ?_) (fun i hil j v hv => ?_)) .nil
            · obtain ⟨cs', h1, h2⟩ := hrow i hil
              simpa [h1] using h2
            · obtain ⟨cs', h1, h2⟩ := hrow i hil
              simp only [h1, Option.getD_some] at hv
              obtain ⟨_, hcl, hat⟩ := World.cells?_some h1
              have hj : j < cs'.length := (List.getElem?_eq_some_iff.1 hv).1
              rw [hlen, ← Go.Deep.add_add, hat j (by omega), hv]
        · cases hf
      · rename_i fs hu
        simp only [Option.bind_eq_some_iff] at hf
        obtain ⟨l, hl, out, hf, ho⟩ := hf
        split at ho
        · rename_i hol
          simp only [Option.some.injEq] at ho
          subst ho
          obtain ⟨xs, n, hn, _, hcs, hxl, hx⟩ := DataW.trod_struct hu h
          simp only [Nat.add_right_cancel_iff] at hn
          subst hn
          have := fit_fields ih f fs.toList l [] out hl hf (cs := cs) ?_ ?_ .nil
          · rwa [List.take_of_length_le (by omega)] at this
          · intro fd hfd
            obtain ⟨i, hi, rfl⟩ := List.getElem_of_mem hfd
            have hi' : i < fs.size := by simpa using hi
            have := hx i fs[i] (by simp [hi'])
            rw [List.getElem?_eq_getElem (by omega)] at this
            exact ⟨_, by simpa using this⟩
          · omega
        · cases ho
      · rename_i n e hu
        simp only [Option.bind_eq_some_iff] at hf
        obtain ⟨ke, hke, hf⟩ := hf
        split at hf
        · rename_i hlen
          simp only [Option.some.injEq] at hf
          subst hf
          obtain ⟨xs, m, hm, _, hcs, hxl, hx⟩ := DataW.trod_array hu h
          simp only [Nat.add_right_cancel_iff] at hm
          subst hm
          have key : ∀ j, j ≤ n → Fit w (List.replicate j ke).flatten (cs.take (j * ke.length)) := by
            intro j
            induction j with
            | zero => intro _; simp; exact .nil
            | succ j ihj =>
              intro hj
              have h1 := ihj (by omega)
              have h2 := hx j (by omega)
              rw [List.getElem?_eq_getElem (by omega)] at h2
              have h3 := ih _ _ _ _ _ hke h2
              have := Fit.append h1 h3
              rw [List.replicate_succ', List.flatten_append]
              have e : cs.take ((j + 1) * ke.length) = cs.take (j * ke.length) ++ (cs.drop (j * P.cellsOf e)).take (P.cellsOf e) := by
                rw [Nat.add_mul, Nat.one_mul, List.take_add, hlen.1]
              rw [e]
              simpa using this
          have := key n (Nat.le_refl _)
          rwa [List.take_of_length_le (by rw [hlen.2]; omega)] at this
        · cases hf
      · cases hf

/-- An argument's value, by its type's row of kinds. -/
theorem fit_arg {t : TypeId} {v : Value} {d : DataW H} {ps : List MemPlace} (f : Nat) {ks : List CK} (hf : flat P f t = some ks) (h : DataW.Trod enc P w base (fun _ => true) held t v d ps) : Fit w ks v.cells.toList := by
  obtain ⟨fuel, h⟩ := h
  exact fit_of_trod (fun _ => rfl) _ _ _ _ _ _ hf h
theorem okWide_agg {r : Reach} {b0 : Nat} {t : TypeId} {v : Value} (hs : (∃ fs, P.underlying t = some (.struct fs)) ∨ ∃ n e, P.underlying t = some (.array n e)) (hv : Value.okWide P w r b0 t v) : ∃ cs, v = .agg cs := by
  unfold Value.okWide at hv
  rcases hs with ⟨fs, h⟩ | ⟨n, e, h⟩ <;> rw [h] at hv <;> obtain ⟨cs, rfl, _⟩ := hv <;> exact ⟨cs, rfl⟩
end

theorem Fit.cons_inv {w : World} {k : CK} {ks : List CK} {cs : List Value} (h : Fit w (k :: ks) cs) : ∃ v vs, cs = v :: vs ∧ Fit1 w k v ∧ Fit w ks vs := by
  cases h with
  | cons h1 h2 => exact ⟨_, _, rfl, h1, h2⟩
theorem Fit.nil_inv {w : World} {cs : List Value} (h : Fit w [] cs) : cs = [] := by
  cases h with
  | nil => rfl
theorem Fit.append_inv {w : World} : ∀ {ks ks' : List CK} {cs : List Value}, Fit w (ks ++ ks') cs → ∃ l r, cs = l ++ r ∧ Fit w ks l ∧ Fit w ks' r
  | [], _, cs, h => ⟨[], cs, rfl, .nil, h⟩
  | _ :: _, _, _, h => by
    obtain ⟨v, vs, rfl, h1, h2⟩ := Fit.cons_inv h
    obtain ⟨l, r, rfl, h3, h4⟩ := Fit.append_inv h2
    exact ⟨v :: l, r, rfl, .cons h1 h3, h4⟩
theorem Fit1.int_inv {w : World} {k : IntKind} {v : Value} (h : Fit1 w (.int k) v) : ∃ n, v = .int k n ∧ (Lit.int k n).wf = true := by
  cases h with
  | int h => exact ⟨_, rfl, h⟩
theorem Fit1.bool_inv {w : World} {v : Value} (h : Fit1 w .bool v) : ∃ b, v = .bool b := by
  cases h with
  | bool => exact ⟨_, rfl⟩
theorem Fit1.str_inv {w : World} {v : Value} (h : Fit1 w .str v) : ∃ s : ByteArray, v = .string s ∧ s.size ≤ maxLen := by
  cases h with
  | str h => exact ⟨_, rfl, h⟩
theorem Fit1.slice_inv {w : World} {ks : List CK} {v : Value} (h : Fit1 w (.slice ks) v) : ∃ (A : Option Addr) (n c : Nat) (rows : Nat → List Value), v = .slice A n c ∧ n ≤ c ∧ c ≤ maxLen ∧ (∀ a, A = some a → 0 < c → 0 < ks.length → ∃ v, w.cell? a = some v) ∧ (A = none → n = 0 ∧ c = 0) ∧ (∀ i, i < n → Fit w ks (rows i)) ∧
    ∀ i, i < n → ∃ a, A = some a ∧ ∀ j v, (rows i)[j]? = some v → w.cell? (a.add (i * ks.length + j)) = some v := by
  cases h with
  | nl => exact ⟨none, 0, 0, fun _ => [], rfl, Nat.le_refl _, by unfold maxLen; omega, fun a h => by simp at h, fun _ => ⟨rfl, rfl⟩, fun i hi => absurd hi (by omega), fun i hi => absurd hi (by omega)⟩
  | sl h1 h2 h5 h3 h4 => exact ⟨_, _, _, _, rfl, h1, h2, fun a e => by cases e; exact h5, fun e => by simp at e, h3, fun i hi => ⟨_, rfl, h4 i hi⟩⟩

/-- A slice (address A) that reads as the list xs: element x lies as the cells 'enc x', k of them. -/
def Sl {α : Type} (w : World) (enc : α → List Value) (k : Nat) (A : Option Addr) (xs : List α) : Prop :=
  ∀ i x, xs[i]? = some x → ∃ a, A = some a ∧ ∀ j v, (enc x)[j]? = some v → w.cell? (a.add (i * k + j)) = some v
theorem list_of_rows {α : Type} {enc : α → List Value} {Q : α → Prop} {rows : Nat → List Value} : ∀ (n : Nat), (∀ i, i < n → ∃ x, rows i = enc x ∧ Q x) → ∃ xs : List α, xs.length = n ∧ (∀ i x, xs[i]? = some x → rows i = enc x) ∧ ∀ x ∈ xs, Q x
  | 0, _ => ⟨[], rfl, fun i x h => by simp at h, fun x h => by simp at h⟩
  | n + 1, h => by
    obtain ⟨xs, h1, h2, h3⟩ := list_of_rows n (fun i hi => h i (by omega))
    obtain ⟨x, hx, hq⟩ := h n (by omega)
    refine ⟨xs ++ [x], by simp [h1], fun i y hy => ?_, fun y hy => ?_⟩
    · rcases Nat.lt_or_ge i n with hi | hi
      · rw [List.getElem?_append_left (by omega)] at hy
        exact h2 i y hy
      · rw [List.getElem?_append_right (by omega)] at hy
        have : i = n := by
          have := (List.getElem?_eq_some_iff.1 hy).1
          simp at this
          omega
        subst this
        simp [h1] at hy
        subst hy
        exact hx
    · rcases List.mem_append.1 hy with h | h
      · exact h3 y h
      · simp at h; subst h; exact hq
/-- A slice argument as a list. -/
theorem sl_of_fit {α : Type} {enc : α → List Value} {Q : α → Prop} {w : World} {ks : List CK} {v : Value} (h : Fit1 w (.slice ks) v) (hd : ∀ cs, Fit w ks cs → ∃ x, cs = enc x ∧ Q x) :
    ∃ (A : Option Addr) (c : Nat) (xs : List α), v = .slice A xs.length c ∧ xs.length ≤ c ∧ c ≤ maxLen ∧ Sl w enc ks.length A xs ∧ ∀ x ∈ xs, Q x := by
  obtain ⟨A, n, c, rows, rfl, h1, h2, _, _, h3, h4⟩ := h.slice_inv
  obtain ⟨xs, rfl, h5, h6⟩ := list_of_rows n (fun i hi => hd _ (h3 i hi))
  refine ⟨A, c, xs, rfl, h1, h2, fun i x hx => ?_, h6⟩
  have hi : i < xs.length := (List.getElem?_eq_some_iff.1 hx).1
  obtain ⟨a, ha, hc⟩ := h4 i hi
  refine ⟨a, ha, fun j v hv => hc j v ?_⟩
  rw [h5 i x hx]
  exact hv
theorem Sl.keep {α : Type} {w w' : World} {enc : α → List Value} {k : Nat} {A : Option Addr} {xs : List α} (h : Sl w enc k A xs) (hk : ∀ a v, w.cell? a = some v → w'.cell? a = some v) : Sl w' enc k A xs :=
  fun i x hx => let ⟨a, ha, hc⟩ := h i x hx; ⟨a, ha, fun j v hv => hk _ _ (hc j v hv)⟩
theorem Sl.below {α : Type} {w w' : World} {enc : α → List Value} {k : Nat} {A : Option Addr} {xs : List α} (h : Sl w enc k A xs) (hb : Below w.heap.size w w') : Sl w' enc k A xs :=
  h.keep fun a _ hv => (hb.cell (World.block_lt_of_cell? w a hv)).trans hv
theorem Sl.alloc {α : Type} {w : World} {enc : α → List Value} {k : Nat} {A : Option Addr} {xs : List α} (h : Sl w enc k A xs) (o : Obj) : Sl (w.alloc o) enc k A xs :=
  h.keep fun a _ hv => (World.cell?_alloc_lt w o a (World.block_lt_of_cell? w a hv)).trans hv
theorem Sl.drewN {α : Type} {w : World} {enc : α → List Value} {k : Nat} {A : Option Addr} {xs : List α} (h : Sl w enc k A xs) (n : Nat) : Sl (w.drewN n) enc k A xs := h
end Go.Proofs.Ytjjhogleiolngaa
