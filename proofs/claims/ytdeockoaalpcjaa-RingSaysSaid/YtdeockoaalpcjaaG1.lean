/- RingSays: what a round and the halving come to, in plain lists. No program stands here. -/
import Derived.Test.YtdeockoaalpcjaaB1
set_option linter.unusedVariables false
namespace Go.Proofs.Ytdeockoaalpcjaa.Rg
/-- Where one stands after k steps of length w. -/
def pos (n w i k : Nat) : Nat := (i + k * w) % n
def val (l : List Int) (i : Nat) : Int := l.getD i 0
/-- The k-th step of who began at i ends the way. -/
def stop (l : List Int) (w i k : Nat) : Bool := decide (pos l.length w i k = i) || decide (val l i < val l (pos l.length w i k))
/-- No step up to the k-th one ended it. -/
def alive (l : List Int) (w i : Nat) : Nat → Bool
  | 0 => true
  | k + 1 => alive l w i k && !stop l w i (k + 1)
theorem alive_mono {l : List Int} {w i k j : Nat} (h : alive l w i k = true) (hj : j ≤ k) : alive l w i j = true := by
  induction k with
  | zero => have : j = 0 := by omega
            subst this; exact h
  | succ k ih =>
    by_cases e : j = k + 1
    · subst e; exact h
    · simp only [alive, Bool.and_eq_true] at h; exact ih h.1 (by omega)
theorem alive_dead {l : List Int} {w i k j : Nat} (h : alive l w i k = false) (hj : k ≤ j) : alive l w i j = false := by
  cases e : alive l w i j with
  | false => rfl
  | true => rw [alive_mono e hj] at h; cases h
theorem alive_stop {l : List Int} {w i k : Nat} (h : alive l w i k = true) {j : Nat} (h1 : 1 ≤ j) (hj : j ≤ k) : stop l w i j = false := by
  have := alive_mono h hj
  obtain ⟨m, rfl⟩ : ∃ m, j = m + 1 := ⟨j - 1, by omega⟩
  simp only [alive, Bool.and_eq_true, Bool.not_eq_true'] at this
  exact this.2
theorem alive_of {l : List Int} {w i k : Nat} (h : ∀ j, 1 ≤ j → j ≤ k → stop l w i j = false) : alive l w i k = true := by
  induction k with
  | zero => rfl
  | succ k ih => simp only [alive, Bool.and_eq_true, Bool.not_eq_true']; exact ⟨ih fun j h1 h2 => h j h1 (by omega), h _ (by omega) (by omega)⟩
/-- How many of the first s steps are taken. -/
def cnt (l : List Int) (w i : Nat) : Nat → Nat
  | 0 => 0
  | s + 1 => cnt l w i s + if alive l w i s then 1 else 0
theorem cnt_all {l : List Int} {w i : Nat} : ∀ {s : Nat}, (∀ j, j < s → alive l w i j = true) → cnt l w i s = s
  | 0, _ => rfl
  | s + 1, h => by rw [cnt, cnt_all fun j hj => h j (by omega), if_pos (h s (by omega))]
theorem cnt_end {l : List Int} {w i k : Nat} (h : alive l w i k = false) : ∀ {s : Nat}, k ≤ s → cnt l w i s = cnt l w i k
  | 0, hs => by have : k = 0 := by omega
                subst this; rfl
  | s + 1, hs => by
    by_cases e : k = s + 1
    · subst e; rfl
    · rw [cnt, cnt_end h (by omega), alive_dead h (show k ≤ s by omega)]; rfl
theorem cnt_le {l : List Int} {w i : Nat} : ∀ (s : Nat), cnt l w i s ≤ s
  | 0 => Nat.le_refl _
  | s + 1 => by have := cnt_le (l := l) (w := w) (i := i) s; rw [cnt]; split <;> omega
/-- Back at the start just at the n-th step. -/
theorem pos_one {n i k : Nat} (h : i < n) (h1 : 1 ≤ k) (hk : k ≤ n) : pos n 1 i k = i ↔ k = n := by
  unfold pos; rw [Nat.mul_one]
  by_cases hlt : i + k < n
  · rw [Nat.mod_eq_of_lt hlt]; omega
  · rw [Nat.mod_eq_sub_mod (by omega), Nat.mod_eq_of_lt (by omega)]; omega
theorem pos_two {n i k : Nat} (h : i < n) (h1 : 1 ≤ k) (hk : k ≤ n) : pos n (n - 1) i k = (i + (n - k)) % n := by
  unfold pos
  have : i + k * (n - 1) = i + (n - k) + n * (k - 1) := by
    obtain ⟨m, rfl⟩ : ∃ m, n = k + m := ⟨n - k, by omega⟩
    obtain ⟨j, rfl⟩ : ∃ j, k = j + 1 := ⟨k - 1, by omega⟩
    simp only [Nat.add_sub_cancel, show j + 1 + m - (j + 1) = m by omega, show j + 1 + m - 1 = j + m by omega, Nat.add_mul, Nat.mul_add]
    rw [Nat.mul_comm m j]; omega
  rw [this, Nat.add_mul_mod_self_left]
theorem pos_lt {n w i k : Nat} (h : i < n) : pos n w i k < n := Nat.mod_lt _ (by omega)
theorem pos_succ (n w i k : Nat) : pos n w i (k + 1) = (pos n w i k + w) % n := by
  unfold pos; rw [Nat.mod_add_mod, Nat.add_mul, Nat.one_mul, Nat.add_assoc]
theorem stop_n {l : List Int} {i : Nat} (h : i < l.length) : stop l 1 i l.length = true := by
  unfold stop; rw [(pos_one h (by omega) (Nat.le_refl _)).2 rfl]; simp
theorem alive_n {l : List Int} {i : Nat} (h : i < l.length) : alive l 1 i l.length = false := by
  cases e : alive l 1 i l.length with
  | false => rfl
  | true => have := alive_stop e (j := l.length) (by omega) (Nat.le_refl _); rw [stop_n h] at this; cases this

/-! ### Round -/
def sum (f : Nat → Nat) : Nat → Nat
  | 0 => 0
  | n + 1 => sum f n + f n
/-- All that is sent in the first s steps. -/
def S (l : List Int) (s : Nat) : Nat := sum (fun i => cnt l 1 i s) l.length
def sent (l : List Int) : Nat := S l l.length
def cntA (p : Nat → Bool) (n : Nat) : Nat := ((List.range n).filter p).length
theorem cntA_succ (p : Nat → Bool) (n : Nat) : cntA p (n + 1) = cntA p n + if p n then 1 else 0 := by
  unfold cntA; rw [List.range_succ, List.filter_append, List.length_append]
  cases h : p n <;> simp [h]
theorem sum_cntA (f g : Nat → Nat) (p : Nat → Bool) (h : ∀ i, g i = f i + if p i then 1 else 0) : ∀ n, sum g n = sum f n + cntA p n
  | 0 => rfl
  | n + 1 => by simp only [sum]; rw [sum_cntA f g p h n, cntA_succ, h]; omega
theorem S_succ (l : List Int) (s : Nat) : S l (s + 1) = S l s + cntA (fun i => alive l 1 i s) l.length := sum_cntA _ _ _ (fun _ => rfl) _
theorem S_zero (l : List Int) : S l 0 = 0 := by
  have : ∀ n, sum (fun i => cnt l 1 i 0) n = 0 := fun n => by induction n with
    | zero => rfl
    | succ n ih => show sum _ n + 0 = 0; rw [ih]
  exact this _
theorem S_step (l : List Int) {s : Nat} (h : ((List.range l.length).filter fun i => alive l 1 i s) = []) : ∀ {t : Nat}, s ≤ t → S l t = S l s
  | 0, ht => by have : s = 0 := by omega
                subst this; rfl
  | t + 1, ht => by
    by_cases e : s = t + 1
    · subst e; rfl
    · have h0 : cntA (fun i => alive l 1 i t) l.length = 0 := by
        unfold cntA
        rw [List.length_eq_zero_iff, List.filter_eq_nil_iff]
        intro i hi ha
        rw [List.filter_eq_nil_iff] at h
        exact h i hi (alive_mono ha (by omega))
      rw [S_succ, h0, S_step l h (by omega)]; rfl
/-- The last one below n of which p is true; else d. -/
def last (p : Nat → Bool) (d : Int) : Nat → Int
  | 0 => d
  | n + 1 => if p n then (n : Int) else last p d n
def lead (l : List Int) : Int := last (fun i => alive l 1 i (l.length - 1)) 0 l.length
theorem last_any {p : Nat → Bool} {d e : Int} : ∀ {n i : Nat}, i < n → p i = true → last p d n = last p e n
  | 0, _, h, _ => by omega
  | n + 1, i, h, hp => by
    unfold last
    split
    · rfl
    · rename_i hn
      exact last_any (i := i) (by rcases Nat.lt_or_ge i n with q | q; exact q; exact absurd (by rw [← show i = n by omega]; exact hp) hn) hp
/-- There is a greatest one. -/
theorem max_ex : ∀ (l : List Int) (n : Nat), 0 < n → n ≤ l.length → ∃ m, m < n ∧ ∀ j, j < n → val l j ≤ val l m
  | l, 0, h, _ => by omega
  | l, 1, _, _ => ⟨0, by omega, fun j hj => by have : j = 0 := by omega
                                               subst this; exact Int.le_refl _⟩
  | l, n + 2, _, h => by
    obtain ⟨m, h1, h2⟩ := max_ex l (n + 1) (by omega) (by omega)
    by_cases hc : val l m ≤ val l (n + 1)
    · refine ⟨n + 1, by omega, fun j hj => ?_⟩
      by_cases e : j = n + 1
      · subst e; exact Int.le_refl _
      · exact Int.le_trans (h2 j (by omega)) hc
    · refine ⟨m, by omega, fun j hj => ?_⟩
      by_cases e : j = n + 1
      · subst e; omega
      · exact h2 j (by omega)
theorem alive_max {l : List Int} {w m k : Nat} (hm : m < l.length) (hx : ∀ j, j < l.length → val l j ≤ val l m) (hp : ∀ j, 1 ≤ j → j ≤ k → pos l.length w m j ≠ m) : alive l w m k = true :=
  alive_of fun j h1 h2 => by
    unfold stop
    rw [decide_eq_false (hp j h1 h2), decide_eq_false (by have := hx _ (pos_lt (w := w) (k := j) hm); omega)]; rfl
theorem lead_ex {l : List Int} (h : 0 < l.length) : ∃ m, m < l.length ∧ alive l 1 m (l.length - 1) = true := by
  obtain ⟨m, h1, h2⟩ := max_ex l l.length h (Nat.le_refl _)
  exact ⟨m, h1, alive_max h1 h2 fun j h3 h4 e => by have := (pos_one h1 h3 (by omega)).1 e; omega⟩
theorem lead_is {l : List Int} (h : 0 < l.length) (d : Int) : last (fun i => alive l 1 i (l.length - 1)) d l.length = lead l := by
  obtain ⟨m, h1, h2⟩ := lead_ex h
  exact last_any h1 h2
end Go.Proofs.Ytdeockoaalpcjaa.Rg
