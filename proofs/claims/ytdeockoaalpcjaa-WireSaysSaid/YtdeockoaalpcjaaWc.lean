/- WireSays: a Note as cells; wire.Check, partref.NoteErr. -/
import Derived.Test.YtdeockoaalpcjaaWb
import Derived.Test.YtdeockoaalpcjaaS1
import Derived.Test.YtdeockoaalpcjaaM1
namespace Go.Proofs.Ytdeockoaalpcjaa
set_option linter.unusedSimpArgs false
set_option linter.unusedVariables false
open Go.RowKit
attribute [local irreducible] AWP ACalls Wk GcTo
attribute [local simp] tab3 ti3 tab9 ti9 tab5 ti5 tab81 ti81 tab191 ti191 tab74 ti74 tab38 ti38 tab24 ti24 tab22 ti22
structure Nt where
  kind : Int
  src : Int
  dst : Int
  view : Int
  seq : Int
  at_ : Nat → Int
  text : ByteArray
namespace Nt
def cs (p : Nt) : List Sc := [.int .i64 p.kind, .int .i64 p.src, .int .i64 p.dst, .int .i64 p.view, .int .i64 p.seq, .int .i64 (p.at_ 0), .int .i64 (p.at_ 1), .int .i64 (p.at_ 2), .int .i64 (p.at_ 3), .int .i64 (p.at_ 4), .int .i64 (p.at_ 5), .str p.text]
variable (p : Nt)
@[simp] theorem len : p.cs.length = 12 := rfl
@[simp] theorem g0 : p.cs[0]? = some (.int .i64 p.kind) := rfl
@[simp] theorem g1 : p.cs[1]? = some (.int .i64 p.src) := rfl
@[simp] theorem g2 : p.cs[2]? = some (.int .i64 p.dst) := rfl
@[simp] theorem g3 : p.cs[3]? = some (.int .i64 p.view) := rfl
@[simp] theorem g4 : p.cs[4]? = some (.int .i64 p.seq) := rfl
@[simp] theorem g11 : p.cs[11]? = some (.str p.text) := rfl
@[simp] theorem e0 (h : 0 < p.cs.length) : p.cs[0] = .int .i64 p.kind := rfl
@[simp] theorem e1 (h : 1 < p.cs.length) : p.cs[1] = .int .i64 p.src := rfl
@[simp] theorem e2 (h : 2 < p.cs.length) : p.cs[2] = .int .i64 p.dst := rfl
@[simp] theorem e3 (h : 3 < p.cs.length) : p.cs[3] = .int .i64 p.view := rfl
@[simp] theorem e4 (h : 4 < p.cs.length) : p.cs[4] = .int .i64 p.seq := rfl
@[simp] theorem e11 (h : 11 < p.cs.length) : p.cs[11] = .str p.text := rfl
@[simp] theorem gAt : (p.cs.drop 5).take 6 = Mt.vs p.at_ := rfl
@[simp] theorem all : p.cs.take 12 = p.cs := rfl
@[simp] theorem over (q : Nt) : splice 0 p.cs q.cs = p.cs := rfl
@[simp] theorem ren_cs (m : Nat → Nat) : p.cs.map (renS m) = p.cs := rfl
theorem at_at {j : Nat} (h : j < 6) : p.cs[5 + j]? = some (.int .i64 (p.at_ j)) := by
  match j, h with | 0, _ => rfl | 1, _ => rfl | 2, _ => rfl | 3, _ => rfl | 4, _ => rfl | 5, _ => rfl
def zero : Nt := ⟨0, 0, 0, 0, 0, fun _ => 0, ⟨#[]⟩⟩
theorem zero_cs : ([.int .i64 0, .int .i64 0, .int .i64 0, .int .i64 0, .int .i64 0, .int .i64 0, .int .i64 0, .int .i64 0, .int .i64 0, .int .i64 0, .int .i64 0, .str ⟨#[]⟩] : List Sc) = zero.cs := rfl
def atBad : Nat → Nat → Int
  | 0, _ => if 200 < p.text.size then 2 else 0
  | n + 1, j => if p.at_ j < 0 ∨ 16777215 < p.at_ j then 1 else atBad n (j + 1)
def headBad : Prop := p.kind < 0 ∨ 255 < p.kind ∨ p.src < 0 ∨ 5 < p.src ∨ p.dst < 0 ∨ 5 < p.dst ∨ p.view < 0 ∨ 16777215 < p.view ∨ p.seq < 0 ∨ 16777215 < p.seq
instance : Decidable p.headBad := by unfold headBad; infer_instance
def err : Int := if p.headBad then 1 else p.atBad 6 0
theorem atBad_step {j : Nat} (h : j < 6) : p.atBad (6 - j) j = if p.at_ j < 0 ∨ 16777215 < p.at_ j then 1 else p.atBad (6 - (j + 1)) (j + 1) := by
  obtain ⟨k, hk⟩ : ∃ k, 6 - j = k + 1 := ⟨5 - j, by omega⟩
  rw [hk, show 6 - (j + 1) = k by omega]; rfl
theorem atBad_yes : ∀ {n j i : Nat}, j ≤ i → i < j + n → (p.at_ i < 0 ∨ 16777215 < p.at_ i) → p.atBad n j = 1
  | 0, j, i, h1, h2, _ => by omega
  | n + 1, j, i, h1, h2, h => by
    unfold atBad
    split
    · rfl
    · rename_i hn
      exact atBad_yes (i := i) (by rcases Nat.lt_or_ge j i with q | q; exact q; exact absurd (by rw [show j = i by omega]; exact h) hn) (by omega) h
theorem atBad_no : ∀ {n j : Nat}, (∀ i, j ≤ i → i < j + n → ¬(p.at_ i < 0 ∨ 16777215 < p.at_ i)) → p.atBad n j = if 200 < p.text.size then 2 else 0
  | 0, j, _ => rfl
  | n + 1, j, h => by
    unfold atBad
    rw [if_neg (h j (by omega) (by omega))]
    exact atBad_no fun i a b => h i (by omega) (by omega)
end Nt
set_option maxRecDepth 100000 in
theorem wireCheck {H : List Blk} {p : Nt} {Q : AV → List Blk → Prop} (q : Q (.c (.sc (.int .i64 p.err))) H) :
    ACalls Try.prog 50 [.agg p.cs] H Q := by
  refine acalls_of tabOk Try.func50 (by kernel_rfl) rfl (by kernel_rfl) ?_
  (repeat' (first | refine awp_seq ?_ | (refine awp_region tabOk ?_; simp) | (refine awp_if ?_; simp) | refine awp_block ?_ | refine And.intro ?_ ?_ | intro _ | (refine awp_skip ?_; simp) | (refine awp_ret ?_; simp) | (refine awp_exit ?_; simp)))
  · rename_i h
    have hb : p.headBad := by unfold Nt.headBad; omega
    have e : p.err = 1 := if_pos hb
    rw [e] at q
    exact ⟨H, _, gcTo_none (fun _ => rfl), q⟩
  · have hb : ¬p.headBad := by unfold Nt.headBad; omega
    have e : p.err = p.atBad 6 0 := if_neg hb
    refine awp_loop_at (α := {j : Nat // j ≤ 6 ∧ p.err = p.atBad (6 - j) j}) (fun j => [(1, .c (.sc (.ptr H.length 0))), (54, .c (.agg (Mt.vs p.at_))), (55, .c (.sc (.int .i64 j.1)))]) (fun _ => H ++ [.own p.cs]) (fun j => 6 - j.1) ⟨0, by omega, e⟩ (wk_tl (by simp)) ?_
    rintro ⟨j, hj, he⟩
    by_cases hjl : j < 6
    · have hj6 : (j : Int) < 6 := by omega
      have wj := wrapS j (by omega)
      have a3 := Mt.vs_at p.at_ hjl
      obtain ⟨_, a4⟩ := List.getElem?_eq_some_iff.1 a3
      rw [p.atBad_step hjl] at he
      by_cases hv : p.at_ j < 0 ∨ 16777215 < p.at_ j
      · rw [if_pos hv] at he
        rw [he] at q
        have hv' : p.at_ j < 0 ∨ (¬p.at_ j < 0 ∧ 16777215 < p.at_ j) := by omega
        rcases hv' with h | h
        all_goals ((repeat' (first | refine awp_seq ?_ | (refine awp_region tabOk ?_; simp [hjl, hj6, a3, a4, h]) | (refine awp_if ?_; simp [hjl, hj6, a3, a4, h]) | refine awp_block ?_ | refine And.intro ?_ ?_ | intro _ | (refine awp_skip ?_; simp [hjl, hj6, a3, a4, h]) | (refine awp_ret ?_; simp [hjl, hj6, a3, a4, h]) | (refine awp_exit ?_; simp [hjl, hj6, a3, a4, h]))); exact ⟨H, _, gcTo_none (fun _ => rfl), q⟩)
      · rw [if_neg hv] at he
        have h : ¬p.at_ j < 0 ∧ ¬16777215 < p.at_ j := by omega
        (repeat' (first | refine awp_seq ?_ | (refine awp_region tabOk ?_; simp [hjl, hj6, a3, a4, h, wj]) | (refine awp_if ?_; simp [hjl, hj6, a3, a4, h, wj]) | refine awp_block ?_ | refine And.intro ?_ ?_ | intro _ | (refine awp_skip ?_; simp [hjl, hj6, a3, a4, h, wj]) | (refine awp_ret ?_; simp [hjl, hj6, a3, a4, h, wj]) | (refine awp_exit ?_; simp [hjl, hj6, a3, a4, h, wj])))
        exact ⟨j + 1, by omega, ⟨by omega, he⟩, wk_tl (by simp)⟩
    · obtain rfl : j = 6 := by omega
      have he : p.err = if 200 < p.text.size then 2 else 0 := he
      by_cases ht : 200 < p.text.size
      · rw [if_pos ht] at he
        rw [he] at q
        have ht' : (200 : Int) < p.text.size := by omega
        (repeat' (first | refine awp_seq ?_ | (refine awp_region tabOk ?_; simp [ht']) | (refine awp_if ?_; simp [ht']) | refine awp_block ?_ | refine And.intro ?_ ?_ | intro _ | (refine awp_skip ?_; simp [ht']) | (refine awp_ret ?_; simp [ht']) | (refine awp_exit ?_; simp [ht'])))
        exact ⟨H, _, gcTo_none (fun _ => rfl), q⟩
      · rw [if_neg ht] at he
        rw [he] at q
        have ht' : ¬(200 : Int) < p.text.size := by omega
        (repeat' (first | refine awp_seq ?_ | (refine awp_region tabOk ?_; simp [ht']) | (refine awp_if ?_; simp [ht']) | refine awp_block ?_ | refine And.intro ?_ ?_ | intro _ | (refine awp_skip ?_; simp [ht']) | (refine awp_ret ?_; simp [ht']) | (refine awp_exit ?_; simp [ht'])))
        exact ⟨H, _, gcTo_none (fun _ => rfl), q⟩
/-- The least, the greatest of the first k. -/
def mnU (f : Nat → Int) : Nat → Int
  | 0 => f 0
  | k + 1 => if f (k + 1) < mnU f k then f (k + 1) else mnU f k
def mxU (f : Nat → Int) : Nat → Int
  | 0 => f 0
  | k + 1 => if mxU f k < f (k + 1) then f (k + 1) else mxU f k
theorem mnU_lt (f : Nat → Int) (b : Int) : ∀ k, mnU f k < b ↔ ∃ j, j ≤ k ∧ f j < b
  | 0 => ⟨fun h => ⟨0, Nat.le_refl _, h⟩, fun ⟨j, hj, h⟩ => by have : j = 0 := by omega
                                                               subst this; exact h⟩
  | k + 1 => by
    have ih := mnU_lt f b k
    unfold mnU
    constructor
    · intro h
      split at h
      · exact ⟨k + 1, Nat.le_refl _, h⟩
      · obtain ⟨j, h1, h2⟩ := ih.1 h; exact ⟨j, by omega, h2⟩
    · rintro ⟨j, h1, h2⟩
      by_cases e : j = k + 1
      · subst e; split <;> omega
      · have := ih.2 ⟨j, by omega, h2⟩; split <;> omega
theorem mxU_gt (f : Nat → Int) (b : Int) : ∀ k, b < mxU f k ↔ ∃ j, j ≤ k ∧ b < f j
  | 0 => ⟨fun h => ⟨0, Nat.le_refl _, h⟩, fun ⟨j, hj, h⟩ => by have : j = 0 := by omega
                                                               subst this; exact h⟩
  | k + 1 => by
    have ih := mxU_gt f b k
    unfold mxU
    constructor
    · intro h
      split at h
      · exact ⟨k + 1, Nat.le_refl _, h⟩
      · obtain ⟨j, h1, h2⟩ := ih.1 h; exact ⟨j, by omega, h2⟩
    · rintro ⟨j, h1, h2⟩
      by_cases e : j = k + 1
      · subst e; split <;> omega
      · have := ih.2 ⟨j, by omega, h2⟩; split <;> omega
set_option maxRecDepth 100000 in
theorem minInt {H : List Blk} {id off n cap : Nat} {cs : List Sc} {f : Nat → Int} {Q : AV → List Blk → Prop} (hc : Blk.cells? H[id]? = some cs) (hn : n < 1000000) (hx : ∀ i, i < n + 1 → cs[off + i]? = some (.int .i64 (f i)))
    (q : Q (.c (.sc (.int .i64 (mnU f n)))) H) : ACalls Try.prog 109 [.sc (.sl id off 1 (n + 1) cap)] H Q := by
  refine acalls_of tabOk Try.func109 (by kernel_rfl) rfl (by kernel_rfl) ?_
  have h0 := hx 0 (by omega)
  rw [Nat.add_zero] at h0
  have h1 : ¬((n : Int) + 1 < 1) := by omega
  have h2 : (0 : Int) < (n : Int) + 1 := by omega
  (repeat' (first | refine awp_seq ?_ | (refine awp_region tabOk ?_; simp [hc, h0, h1, h2]) | (refine awp_if ?_; simp [hc, h0, h1, h2]) | refine awp_block ?_ | refine And.intro ?_ ?_ | intro _ | (refine awp_skip ?_; simp [hc, h0, h1, h2]) | (refine awp_ret ?_; simp [hc, h0, h1, h2]) | (refine awp_exit ?_; simp [hc, h0, h1, h2])))
  refine awp_loop_at (α := {k : Nat // k ≤ n}) (fun k => [(0, .c (.sc (.sl id off 1 (n + 1) cap))), (3, .c (.sc (.int .i64 (mnU f k.1)))), (4, .c (.sc (.int .i64 (k.1 + 1))))]) (fun _ => H) (fun k => n - k.1) ⟨0, by omega⟩ (wk_tl (by simp [mnU])) ?_
  rintro ⟨k, hk⟩
  by_cases hkl : k < n
  · have hk2 : (k : Int) + 1 < (n : Int) + 1 := by omega
    have hxk := hx (k + 1) (by omega)
    have wk : IntKind.i64.wrap ((k : Int) + 1 + 1) = (k : Int) + 1 + 1 := wrap_in _ (by omega) (by omega)
    have tk : ((k : Int) + 1).toNat = k + 1 := by omega
    have p1 : 0 ≤ (k : Int) + 1 := by omega
    (repeat' (first | refine awp_seq ?_ | (refine awp_region tabOk ?_; simp [hkl, hk2, hxk, hc, tk, p1]) | (refine awp_if ?_; simp [hkl, hk2, hxk, hc, tk, p1]) | refine awp_block ?_ | refine And.intro ?_ ?_ | intro _ | (refine awp_skip ?_; simp [hkl, hk2, hxk, hc, tk, p1]) | (refine awp_ret ?_; simp [hkl, hk2, hxk, hc, tk, p1]) | (refine awp_exit ?_; simp [hkl, hk2, hxk, hc, tk, p1])))
    exact ⟨k + 1, by omega, by omega, wk_tl (by simp [wk, mnU])⟩
  · obtain rfl : k = n := by omega
    (repeat' (first | refine awp_seq ?_ | (refine awp_region tabOk ?_; simp) | (refine awp_if ?_; simp) | refine awp_block ?_ | refine And.intro ?_ ?_ | intro _ | (refine awp_skip ?_; simp) | (refine awp_ret ?_; simp) | (refine awp_exit ?_; simp)))
    exact ⟨H, _, GcTo.refl (Nat.le_refl _), q⟩
set_option maxRecDepth 100000 in
theorem maxInt {H : List Blk} {id off n cap : Nat} {cs : List Sc} {f : Nat → Int} {Q : AV → List Blk → Prop} (hc : Blk.cells? H[id]? = some cs) (hn : n < 1000000) (hx : ∀ i, i < n + 1 → cs[off + i]? = some (.int .i64 (f i)))
    (q : Q (.c (.sc (.int .i64 (mxU f n)))) H) : ACalls Try.prog 110 [.sc (.sl id off 1 (n + 1) cap)] H Q := by
  refine acalls_of tabOk Try.func110 (by kernel_rfl) rfl (by kernel_rfl) ?_
  have h0 := hx 0 (by omega)
  rw [Nat.add_zero] at h0
  have h1 : ¬((n : Int) + 1 < 1) := by omega
  have h2 : (0 : Int) < (n : Int) + 1 := by omega
  (repeat' (first | refine awp_seq ?_ | (refine awp_region tabOk ?_; simp [hc, h0, h1, h2]) | (refine awp_if ?_; simp [hc, h0, h1, h2]) | refine awp_block ?_ | refine And.intro ?_ ?_ | intro _ | (refine awp_skip ?_; simp [hc, h0, h1, h2]) | (refine awp_ret ?_; simp [hc, h0, h1, h2]) | (refine awp_exit ?_; simp [hc, h0, h1, h2])))
  refine awp_loop_at (α := {k : Nat // k ≤ n}) (fun k => [(0, .c (.sc (.sl id off 1 (n + 1) cap))), (3, .c (.sc (.int .i64 (mxU f k.1)))), (4, .c (.sc (.int .i64 (k.1 + 1))))]) (fun _ => H) (fun k => n - k.1) ⟨0, by omega⟩ (wk_tl (by simp [mxU])) ?_
  rintro ⟨k, hk⟩
  by_cases hkl : k < n
  · have hk2 : (k : Int) + 1 < (n : Int) + 1 := by omega
    have hxk := hx (k + 1) (by omega)
    have wk : IntKind.i64.wrap ((k : Int) + 1 + 1) = (k : Int) + 1 + 1 := wrap_in _ (by omega) (by omega)
    have tk : ((k : Int) + 1).toNat = k + 1 := by omega
    have p1 : 0 ≤ (k : Int) + 1 := by omega
    (repeat' (first | refine awp_seq ?_ | (refine awp_region tabOk ?_; simp [hkl, hk2, hxk, hc, tk, p1]) | (refine awp_if ?_; simp [hkl, hk2, hxk, hc, tk, p1]) | refine awp_block ?_ | refine And.intro ?_ ?_ | intro _ | (refine awp_skip ?_; simp [hkl, hk2, hxk, hc, tk, p1]) | (refine awp_ret ?_; simp [hkl, hk2, hxk, hc, tk, p1]) | (refine awp_exit ?_; simp [hkl, hk2, hxk, hc, tk, p1])))
    exact ⟨k + 1, by omega, by omega, wk_tl (by simp [wk, mxU])⟩
  · obtain rfl : k = n := by omega
    (repeat' (first | refine awp_seq ?_ | (refine awp_region tabOk ?_; simp) | (refine awp_if ?_; simp) | refine awp_block ?_ | refine And.intro ?_ ?_ | intro _ | (refine awp_skip ?_; simp) | (refine awp_ret ?_; simp) | (refine awp_exit ?_; simp)))
    exact ⟨H, _, GcTo.refl (Nat.le_refl _), q⟩
set_option maxRecDepth 100000 in
theorem noteErr {H : List Blk} {p : Nt} {Q : AV → List Blk → Prop} (q : Q (.c (.sc (.int .i64 p.err))) H) :
    ACalls Try.prog 43 [.agg p.cs] H Q := by
  refine acalls_of tabOk Try.func43 (by kernel_rfl) rfl (by kernel_rfl) ?_
  (repeat' (first | refine awp_seq ?_ | (refine awp_region tabOk ?_; simp) | (refine awp_if ?_; simp) | refine awp_block ?_ | refine And.intro ?_ ?_ | intro _ | (refine awp_skip ?_; simp) | (refine awp_ret ?_; simp) | (refine awp_exit ?_; simp)))
  · rename_i h
    have hb : p.headBad := by
      unfold Nt.headBad
      revert h
      (repeat' split) <;> omega
    have e : p.err = 1 := if_pos hb
    rw [e] at q
    exact ⟨H, _, gcTo_none (fun _ => rfl), q⟩
  · simp [maxLen]
  · rename_i h1 h2 h3 h4 h5
    have hb : ¬p.headBad := by
      unfold Nt.headBad
      revert h3 h4 h5
      (repeat' split) <;> omega
    have e : p.err = p.atBad 6 0 := if_neg hb
    clear h3 h4 h5
    have hc : Blk.cells? (H ++ [.own p.cs])[H.length]? = some p.cs := by simp
    have hlo := mnU_lt p.at_ 0 5
    have hhi := mxU_gt p.at_ 16777215 5
    refine minInt (n := 5) (f := p.at_) hc (by omega) (fun i hi => p.at_at (by omega)) ?_
    by_cases ha : mnU p.at_ 5 < 0 ∨ 16777215 < mxU p.at_ 5
    · have e2 : p.err = 1 := by
        rw [e]
        rcases ha with ha | ha
        · obtain ⟨j, h1, h2⟩ := hlo.1 ha; exact p.atBad_yes (i := j) (by omega) (by omega) (.inl h2)
        · obtain ⟨j, h1, h2⟩ := hhi.1 ha; exact p.atBad_yes (i := j) (by omega) (by omega) (.inr h2)
      rw [e2] at q
      simp [maxLen]
      refine ⟨_, fun h => ⟨h, maxInt (n := 5) (f := p.at_) hc (by omega) (fun i hi => p.at_at (by omega)) ⟨rfl, rfl⟩⟩, ?_⟩
      ((try simp); (repeat' (first | refine awp_seq ?_ | (refine awp_region tabOk ?_; simp) | (refine awp_if ?_; simp) | refine awp_block ?_ | refine And.intro ?_ ?_ | intro _ | (refine awp_skip ?_; simp) | (refine awp_ret ?_; simp) | (refine awp_exit ?_; simp))))
      · exact ⟨H, _, gcTo_none (fun _ => rfl), q⟩
      all_goals exact absurd ha (by omega)
    · have hn : ∀ i, 0 ≤ i → i < 0 + 6 → ¬(p.at_ i < 0 ∨ 16777215 < p.at_ i) := fun i _ hi hbad => ha (by
        rcases hbad with h | h
        · exact .inl (hlo.2 ⟨i, by omega, h⟩)
        · exact .inr (hhi.2 ⟨i, by omega, h⟩))
      rw [p.atBad_no hn] at e
      simp [maxLen]
      refine ⟨_, fun h => ⟨h, maxInt (n := 5) (f := p.at_) hc (by omega) (fun i hi => p.at_at (by omega)) ⟨rfl, rfl⟩⟩, ?_⟩
      have g1 : ¬mnU p.at_ 5 < 0 := by omega
      have g2 : ¬16777215 < mxU p.at_ 5 := by omega
      by_cases ht : 200 < p.text.size
      · rw [e, if_pos ht] at q
        have ht' : (200 : Int) < p.text.size := by omega
        ((try simp [g1, g2, ht']); (repeat' (first | refine awp_seq ?_ | (refine awp_region tabOk ?_; simp [g1, g2, ht']) | (refine awp_if ?_; simp [g1, g2, ht']) | refine awp_block ?_ | refine And.intro ?_ ?_ | intro _ | (refine awp_skip ?_; simp [g1, g2, ht']) | (refine awp_ret ?_; simp [g1, g2, ht']) | (refine awp_exit ?_; simp [g1, g2, ht']))))
        exact ⟨H, _, gcTo_none (fun _ => rfl), q⟩
      · rw [e, if_neg ht] at q
        have ht' : ¬(200 : Int) < p.text.size := by omega
        ((try simp [g1, g2, ht']); (repeat' (first | refine awp_seq ?_ | (refine awp_region tabOk ?_; simp [g1, g2, ht']) | (refine awp_if ?_; simp [g1, g2, ht']) | refine awp_block ?_ | refine And.intro ?_ ?_ | intro _ | (refine awp_skip ?_; simp [g1, g2, ht']) | (refine awp_ret ?_; simp [g1, g2, ht']) | (refine awp_exit ?_; simp [g1, g2, ht']))))
        exact ⟨H, _, gcTo_none (fun _ => rfl), q⟩
end Go.Proofs.Ytdeockoaalpcjaa
