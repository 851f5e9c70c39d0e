/- RingSays: the halving, in plain lists. No program stands here. -/
import Derived.Test.YtdeockoaalpcjaaG1
set_option linter.unusedVariables false
namespace Go.Proofs.Ytdeockoaalpcjaa.Rg
/-- A look ahead from the k-th step on, f steps left, of far: how many are sent; is nobody greater there? -/
def lookA (l : List Int) (w i far : Nat) : Nat → Nat → Nat × Bool
  | 0, _ => (2 * far, true)
  | f + 1, k => if pos l.length w i k = i then (k, true) else if val l i < val l (pos l.length w i k) then (k, false) else lookA l w i far f (k + 1)
def probeA (l : List Int) (w i far : Nat) : Nat × Bool := lookA l w i far far 1
theorem look_le (l : List Int) (w i far : Nat) : ∀ f k, f + k ≤ far + 1 → (lookA l w i far f k).1 ≤ 2 * far
  | 0, _, _ => Nat.le_refl _
  | f + 1, k, h => by
    unfold lookA
    split
    · simp; omega
    · split
      · simp; omega
      · exact look_le l w i far f (k + 1) (by omega)
theorem look_ge (l : List Int) (w i far : Nat) : ∀ f k, f + k = far + 1 → k - 1 ≤ (lookA l w i far f k).1
  | 0, k, h => by simp [lookA]; omega
  | f + 1, k, h => by
    unfold lookA
    split
    · simp
    · split
      · simp
      · have := look_ge l w i far f (k + 1) (by omega); omega
theorem look_yes {l : List Int} {w i far : Nat} : ∀ {f k : Nat}, (lookA l w i far f k).2 = true → (∀ j, k ≤ j → j < k + f → pos l.length w i j ≠ i) → ∀ j, k ≤ j → j < k + f → val l (pos l.length w i j) ≤ val l i
  | 0, _, _, _, j, h1, h2 => by omega
  | f + 1, k, h, hp, j, h1, h2 => by
    unfold lookA at h
    rw [if_neg (hp k (Nat.le_refl _) (by omega))] at h
    split at h
    · cases h
    · rename_i hv
      by_cases e : j = k
      · subst e; omega
      · exact look_yes h (fun j a b => hp j (by omega) (by omega)) j (by omega) (by omega)
theorem look_max {l : List Int} {w m far : Nat} (hm : m < l.length) (hx : ∀ j, j < l.length → val l j ≤ val l m) : ∀ (f k : Nat), (lookA l w m far f k).2 = true
  | 0, _ => rfl
  | f + 1, k => by
    unfold lookA
    split
    · rfl
    · rw [if_neg (by have := hx _ (pos_lt (w := w) (k := k) hm); omega)]
      exact look_max hm hx f (k + 1)
def ok (l : List Int) (far i : Nat) : Bool := (probeA l 1 i far).2 && (probeA l (l.length - 1) i far).2
def cost (l : List Int) (far i : Nat) : Nat := (probeA l 1 i far).1 + (probeA l (l.length - 1) i far).1
def costs (l : List Int) (far : Nat) : List Nat → Nat
  | [] => 0
  | i :: r => cost l far i + costs l far r
theorem cost_le (l : List Int) (far i : Nat) : cost l far i ≤ 4 * far := by
  have h1 := look_le l 1 i far far 1 (by omega)
  have h2 := look_le l (l.length - 1) i far far 1 (by omega)
  unfold cost probeA; omega
theorem costs_le (l : List Int) (far : Nat) : ∀ r, costs l far r ≤ 4 * far * r.length
  | [] => Nat.zero_le _
  | i :: r => by have := costs_le l far r; have := cost_le l far i; simp only [costs, List.length_cons, Nat.mul_succ]; omega
theorem costs_app (l : List Int) (far : Nat) : ∀ a b, costs l far (a ++ b) = costs l far a + costs l far b
  | [], b => by simp [costs]
  | i :: a, b => by simp only [List.cons_append, costs, costs_app l far a b]; omega
/-- Phase by phase. -/
def hv (l : List Int) : Nat → Nat → List Nat → Nat → Nat × Nat
  | 0, _, _, _ => (0, 0)
  | f + 1, far, left, sent => if l.length ≤ far then (left.headD 0, sent + costs l far left) else hv l f (2 * far) (left.filter (ok l far)) (sent + costs l far left)
def halves (l : List Int) : Nat × Nat := hv l (2 * l.length) 1 (List.range l.length) 0
structure LeftOk (l : List Int) (far : Nat) (left : List Nat) : Prop where
  of : ∃ q : Nat → Bool, left = (List.range l.length).filter q
  max : ∀ m, m < l.length → (∀ j, j < l.length → val l j ≤ val l m) → m ∈ left
  far : far = 1 ∨ ∃ f, far = 2 * f ∧ 1 ≤ f ∧ f < l.length ∧ ∀ i, i ∈ left → ok l f i = true
theorem LeftOk.zero (l : List Int) : LeftOk l 1 (List.range l.length) := ⟨⟨fun _ => true, (List.filter_eq_self.2 fun _ _ => rfl).symm⟩, fun m hm _ => List.mem_range.2 hm, .inl rfl⟩
theorem LeftOk.lt {l : List Int} {far : Nat} {left : List Nat} (h : LeftOk l far left) {i : Nat} (hi : i ∈ left) : i < l.length := by
  obtain ⟨q, rfl⟩ := h.of; exact List.mem_range.1 (List.mem_filter.1 hi).1
theorem LeftOk.len {l : List Int} {far : Nat} {left : List Nat} (h : LeftOk l far left) : left.length ≤ l.length := by
  obtain ⟨q, rfl⟩ := h.of; exact Nat.le_trans (List.length_filter_le _ _) (by simp)
theorem LeftOk.nodup {l : List Int} {far : Nat} {left : List Nat} (h : LeftOk l far left) : left.Nodup := by
  obtain ⟨q, rfl⟩ := h.of; exact List.Pairwise.filter _ List.nodup_range
theorem LeftOk.far1 {l : List Int} {far : Nat} {left : List Nat} (h : LeftOk l far left) : 1 ≤ far := by
  rcases h.far with e | ⟨f, e, h1, _⟩ <;> omega
theorem LeftOk.next {l : List Int} {far : Nat} {left : List Nat} (h : LeftOk l far left) (hf : far < l.length) : LeftOk l (2 * far) (left.filter (ok l far)) where
  of := by obtain ⟨q, rfl⟩ := h.of; exact ⟨_, List.filter_filter⟩
  max m hm hx := List.mem_filter.2 ⟨h.max m hm hx, by unfold ok probeA; rw [look_max hm hx, look_max hm hx]; rfl⟩
  far := .inr ⟨far, rfl, h.far1, hf, fun i hi => (List.mem_filter.1 hi).2⟩
theorem two_pos {n i k : Nat} (h : i < n) (h1 : 1 ≤ k) (hk : k < n) : pos n (n - 1) i k ≠ i := by
  rw [pos_two h h1 (by omega)]
  by_cases hlt : i + (n - k) < n
  · rw [Nat.mod_eq_of_lt hlt]; omega
  · rw [Nat.mod_eq_sub_mod (by omega), Nat.mod_eq_of_lt (by omega)]; omega
theorem ok_max {l : List Int} {f i : Nat} (hi : i < l.length) (hf : f < l.length) (h2 : l.length ≤ 2 * f) (ho : ok l f i = true) : ∀ j, j < l.length → val l j ≤ val l i := by
  simp only [ok, probeA, Bool.and_eq_true] at ho
  have a := look_yes ho.1 fun j h1 h2 e => by have := (pos_one hi h1 (by omega)).1 e; omega
  have b := look_yes ho.2 fun j h1 h2 => two_pos hi h1 (by omega)
  intro j hj
  by_cases e : j = i
  · subst e; exact Int.le_refl _
  by_cases hij : i < j
  · by_cases hd : j - i ≤ f
    · have := a (j - i) (by omega) (by omega)
      rwa [show pos l.length 1 i (j - i) = j by unfold pos; rw [Nat.mul_one, show i + (j - i) = j by omega, Nat.mod_eq_of_lt hj]] at this
    · have := b (l.length - (j - i)) (by omega) (by omega)
      rwa [pos_two hi (by omega) (by omega), show i + (l.length - (l.length - (j - i))) = j by omega, Nat.mod_eq_of_lt hj] at this
  · by_cases hd : i - j ≤ f
    · have := b (i - j) (by omega) (by omega)
      rwa [pos_two hi (by omega) (by omega), show i + (l.length - (i - j)) = j + l.length by omega, Nat.add_mod_right, Nat.mod_eq_of_lt hj] at this
    · have := a (l.length - (i - j)) (by omega) (by omega)
      rwa [show pos l.length 1 i (l.length - (i - j)) = j by unfold pos; rw [Nat.mul_one, show i + (l.length - (i - j)) = j + l.length by omega, Nat.add_mod_right, Nat.mod_eq_of_lt hj]] at this
theorem val_inj {l : List Int} (hd : l.Nodup) {i j : Nat} (hi : i < l.length) (hj : j < l.length) (h : val l i = val l j) : i = j := by
  unfold val at h
  rw [List.getD_eq_getElem?_getD, List.getD_eq_getElem?_getD, List.getElem?_eq_getElem hi, List.getElem?_eq_getElem hj] at h
  exact (List.getElem?_inj hi hd).1 (by rw [List.getElem?_eq_getElem hi, List.getElem?_eq_getElem hj]; exact congrArg some h)
theorem nodup_one {xs : List Nat} {m : Nat} (hd : xs.Nodup) (hm : m ∈ xs) (h : ∀ i ∈ xs, i = m) : xs = [m] := by
  cases xs with
  | nil => cases hm
  | cons a r =>
    have ea := h a (by simp)
    subst ea
    cases r with
    | nil => rfl
    | cons b r =>
      have eb := h b (by simp)
      subst eb
      simp at hd
/-- At the last phase one is left, and stays. -/
theorem LeftOk.one {l : List Int} {far : Nat} {left : List Nat} (h : LeftOk l far left) (hd : l.Nodup) (h0 : 0 < l.length) (hf : l.length ≤ far) : ∃ m, m < l.length ∧ left = [m] ∧ ok l far m = true := by
  obtain ⟨m, hm, hx⟩ := max_ex l l.length h0 (Nat.le_refl _)
  refine ⟨m, hm, nodup_one h.nodup (h.max m hm hx) fun i hi => ?_, by unfold ok probeA; rw [look_max hm hx, look_max hm hx]; rfl⟩
  have hil := h.lt hi
  rcases h.far with e | ⟨f, e, h1, h2, h3⟩
  · omega
  · have := ok_max hil h2 (by omega) (h3 i hi)
    exact val_inj hd hil hm (Int.le_antisymm (hx i hil) (this m hm))
end Go.Proofs.Ytdeockoaalpcjaa.Rg
