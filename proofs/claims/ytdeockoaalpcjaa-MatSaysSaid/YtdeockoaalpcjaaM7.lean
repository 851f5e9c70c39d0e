/- MatSays: the law. -/
import Derived.Test.YtdeockoaalpcjaaM6
namespace Go.Proofs.Ytdeockoaalpcjaa
set_option linter.unusedSimpArgs false
set_option linter.unusedVariables false
open Go.RowKit
attribute [local irreducible] AWP ACalls Wk GcTo
attribute [local simp] tab41 ti41 tab3 ti3 tab38 ti38 tab39 ti39 tab22 ti22 tab4 ti4
theorem eqS_refl : ∀ {cs : List Sc}, cs.all (fun c => match c with | .int _ _ | .bool _ | .str _ => true | _ => false) = true → eqSs cs cs = true
  | [], _ => rfl
  | c :: cs, h => by
    simp only [List.all_cons, Bool.and_eq_true] at h
    simp only [eqSs, eqS_refl h.2, Bool.and_true]
    have := h.1
    cases c <;> first | (simp [eqS]; done) | cases this
theorem okSs_i64 : ∀ {cs : List Sc} {n : Nat}, cs.length = n → cs.all (fun c => match c with | .int .i64 _ => true | _ => false) = true → okSs (List.replicate n (.int .i64)) cs = true
  | [], n, h, _ => by subst h; rfl
  | c :: cs, n, h, k => by
    subst h
    simp only [List.all_cons, Bool.and_eq_true] at k
    rw [List.length_cons, List.replicate_succ]
    simp only [okSs, Bool.and_eq_true]
    refine ⟨?_, okSs_i64 rfl k.2⟩
    have := k.1
    split at this
    · rfl
    · cases this
theorem Mt.eq_cs (p : Mt) : eqSs p.cs p.cs = true := eqS_refl (by simp [Mt.cs, Mt.rs])
theorem Mt.ok_cs (p : Mt) : okSs (List.replicate 38 (.int .i64)) p.cs = true := okSs_i64 (by simp) (by simp [Mt.cs, Mt.rs])
theorem Mt.ok_cs' (p : Mt) : okSs [.int .i64, .int .i64, .int .i64, .int .i64, .int .i64, .int .i64, .int .i64, .int .i64, .int .i64, .int .i64, .int .i64, .int .i64, .int .i64, .int .i64, .int .i64, .int .i64, .int .i64, .int .i64, .int .i64, .int .i64, .int .i64, .int .i64, .int .i64, .int .i64, .int .i64, .int .i64, .int .i64, .int .i64, .int .i64, .int .i64, .int .i64, .int .i64, .int .i64, .int .i64, .int .i64, .int .i64, .int .i64, .int .i64] p.cs = true := p.ok_cs
theorem Mt.eq_vs (g : Nat → Int) : eqSs (Mt.vs g) (Mt.vs g) = true := eqS_refl rfl
theorem Mt.ok_vs (g : Nat → Int) : okSs [.int .i64, .int .i64, .int .i64, .int .i64, .int .i64, .int .i64] (Mt.vs g) = true := rfl
theorem Mt.zero_vs : ([.int .i64 0, .int .i64 0, .int .i64 0, .int .i64 0, .int .i64 0, .int .i64 0] : List Sc) = Mt.vs fun _ => 0 := rfl
theorem Mt.fr_row (n me : Int) (k : Nat) : ∀ i, (Mt.fr n me).scan k i = 0 := by
  have hb : ∀ i j, (Mt.fr n me).bad i j = 0 := fun i j => by unfold Mt.bad Mt.fr; simp
  have hr : ∀ i k j, (Mt.fr n me).row i k j = 0 := fun i k => by
    induction k with
    | zero => intro j; rfl
    | succ k ih => intro j; unfold Mt.row; rw [if_pos (hb i j)]; exact ih _
  induction k with
  | zero => intro i; rfl
  | succ k ih => intro i; unfold Mt.scan; rw [if_pos (hr i 6 0)]; exact ih _
theorem Mt.fr_err (n me : Int) : (Mt.fr n me).err = if n < 1 ∨ 6 < n ∨ me < 0 ∨ n ≤ me then 1 else 0 := by
  unfold Mt.err; rw [Mt.fr_row]; rfl
theorem Mt.zero_err : Mt.zero.err = 1 := rfl
theorem Mt.firmV_len (p : Mt) : p.firmV.length = 6 := by unfold Mt.firmV; split <;> rfl
theorem Mt.firmV_over (p : Mt) (ys : List Sc) (h : ys.length = 6) : splice 0 p.firmV ys = p.firmV := splice_all (by rw [p.firmV_len, h])
theorem Mt.firmV_ren (p : Mt) (m : Nat → Nat) : p.firmV.map (renS m) = p.firmV := by unfold Mt.firmV; split <;> rfl
theorem Mt.firmV_all (p : Mt) : p.firmV.take 6 = p.firmV := List.take_of_length_le (by rw [p.firmV_len]; exact Nat.le_refl _)
set_option maxRecDepth 100000 in
set_option maxHeartbeats 2000000 in
theorem mat_law {H : List Blk} {p o : Mt} {n me : Int} {Q : AV → List Blk → Prop} (q : ∀ H', Q (.c (.sc (.bool true))) H') :
    ACalls Try.prog 5 [.agg p.cs, .agg o.cs, .sc (.int .i64 n), .sc (.int .i64 me)] H Q := by
  refine acalls_of tabOk Try.func5 (by kernel_rfl) rfl (by kernel_rfl) ?_
  (repeat' (first | refine awp_seq ?_ | (refine awp_region tabOk ?_; simp [Mt.zero_cs]) | (refine awp_if ?_; simp [Mt.zero_cs]) | refine awp_block ?_ | refine And.intro ?_ ?_ | intro _ | (refine awp_skip ?_; simp [Mt.zero_cs]) | (refine awp_ret ?_; simp [Mt.zero_cs]) | (refine awp_exit ?_; simp [Mt.zero_cs])))
  refine awp_draw tabOk mixed [] (by kernel_rfl) ?_
  simp
  refine ⟨_, [], matErr ⟨rfl, by simp⟩, ?_⟩
  simp
  refine ⟨_, [], matErr ⟨rfl, by simp⟩, ?_⟩
  simp
  (repeat' (first | refine awp_seq ?_ | (refine awp_region tabOk ?_; simp [Mt.zero_cs]) | (refine awp_if ?_; simp [Mt.zero_cs]) | refine awp_block ?_ | refine And.intro ?_ ?_ | intro _ | (refine awp_skip ?_; simp [Mt.zero_cs]) | (refine awp_ret ?_; simp [Mt.zero_cs]) | (refine awp_exit ?_; simp [Mt.zero_cs])))
  refine matNew ?_
  ((try simp [Mt.zero_cs]); (repeat' (first | refine awp_seq ?_ | (refine awp_region tabOk ?_; simp [Mt.zero_cs]) | (refine awp_if ?_; simp [Mt.zero_cs]) | refine awp_block ?_ | refine And.intro ?_ ?_ | intro _ | (refine awp_skip ?_; simp [Mt.zero_cs]) | (refine awp_ret ?_; simp [Mt.zero_cs]) | (refine awp_exit ?_; simp [Mt.zero_cs]))))
  refine matDid ?_
  ((try simp [Mt.zero_cs]); (repeat' (first | refine awp_seq ?_ | (refine awp_region tabOk ?_; simp [Mt.zero_cs]) | (refine awp_if ?_; simp [Mt.zero_cs]) | refine awp_block ?_ | refine And.intro ?_ ?_ | intro _ | (refine awp_skip ?_; simp [Mt.zero_cs]) | (refine awp_ret ?_; simp [Mt.zero_cs]) | (refine awp_exit ?_; simp [Mt.zero_cs]))))
  refine matMeet ?_
  ((try simp [Mt.zero_cs]); (repeat' (first | refine awp_seq ?_ | (refine awp_region tabOk ?_; simp [Mt.zero_cs]) | (refine awp_if ?_; simp [Mt.zero_cs]) | refine awp_block ?_ | refine And.intro ?_ ?_ | intro _ | (refine awp_skip ?_; simp [Mt.zero_cs]) | (refine awp_ret ?_; simp [Mt.zero_cs]) | (refine awp_exit ?_; simp [Mt.zero_cs]))))
  refine matFirm ?_
  ((try simp [Mt.zero_cs, Mt.fr_cs, Mt.firmV_len, Mt.firmV_over]); (repeat' (first | refine awp_seq ?_ | (refine awp_region tabOk ?_; simp [Mt.zero_cs, Mt.fr_cs, Mt.firmV_len, Mt.firmV_over]) | (refine awp_if ?_; simp [Mt.zero_cs, Mt.fr_cs, Mt.firmV_len, Mt.firmV_over]) | refine awp_block ?_ | refine And.intro ?_ ?_ | intro _ | (refine awp_skip ?_; simp [Mt.zero_cs, Mt.fr_cs, Mt.firmV_len, Mt.firmV_over]) | (refine awp_ret ?_; simp [Mt.zero_cs, Mt.fr_cs, Mt.firmV_len, Mt.firmV_over]) | (refine awp_exit ?_; simp [Mt.zero_cs, Mt.fr_cs, Mt.firmV_len, Mt.firmV_over]))))
  refine matErr ?_
  have fe := Mt.fr_err n me
  have key : ((Mt.fr n me).err = 0 ∧ Mt.newM n me = Mt.fr n me ∧ 0 < n ∧ n < 7 ∧ 0 ≤ me ∧ me < n) ∨ ((Mt.fr n me).err = 1 ∧ Mt.newM n me = Mt.zero ∧ ¬0 < n ∧ True ∧ True ∧ True) ∨
      ((Mt.fr n me).err = 1 ∧ Mt.newM n me = Mt.zero ∧ 0 < n ∧ ¬n < 7 ∧ True ∧ True) ∨ ((Mt.fr n me).err = 1 ∧ Mt.newM n me = Mt.zero ∧ 0 < n ∧ n < 7 ∧ ¬0 ≤ me ∧ True) ∨ ((Mt.fr n me).err = 1 ∧ Mt.newM n me = Mt.zero ∧ 0 < n ∧ n < 7 ∧ 0 ≤ me ∧ ¬me < n) := by
    by_cases h : n < 1 ∨ 6 < n ∨ me < 0 ∨ n ≤ me
    · rw [if_pos h] at fe
      have e1 : Mt.newM n me = Mt.zero := if_neg (by rw [fe]; omega)
      rw [fe, e1]
      simp only [true_and, and_true, true_or, or_true]
      omega
    · rw [if_neg h] at fe
      exact .inl ⟨fe, if_pos fe, by omega⟩
  clear fe
  have S1 : ∀ (o : Mt), okSs [.int .i64, .int .i64, .int .i64, .int .i64, .int .i64, .int .i64, .int .i64, .int .i64, .int .i64, .int .i64, .int .i64, .int .i64, .int .i64, .int .i64, .int .i64, .int .i64, .int .i64, .int .i64, .int .i64, .int .i64, .int .i64, .int .i64, .int .i64, .int .i64, .int .i64, .int .i64, .int .i64, .int .i64, .int .i64, .int .i64, .int .i64, .int .i64, .int .i64, .int .i64, .int .i64, .int .i64, .int .i64, .int .i64] o.cs = true := Mt.ok_cs'
  generalize (Mt.fr n me).err = ne at *
  generalize Mt.newM n me = nm at *
  by_cases he : p.err = 0
  · obtain ⟨g1, g2, g3, g4⟩ := Mt.err_me he
    have hk : p.me.toNat < 6 := by omega
    have hm6 : p.me < 6 := by omega
    have a1 := p.at_a hk hk
    have st := fun x : Int => p.set_a hk hk x
    have c1 : 2 + p.me.toNat * 6 + p.me.toNat + 1 ≤ 38 := by omega
    have E5 : p.firmV = Mt.vs p.firm := if_neg (by simp [he])
    have D : (p.a p.me.toNat p.me.toNat = 16777215 ∧ p.didM = Mt.zero ∧ p.didE = 8) ∨ (¬p.a p.me.toNat p.me.toNat = 16777215 ∧ p.didM = p.setA p.me.toNat p.me.toNat (IntKind.i64.wrap (p.a p.me.toNat p.me.toNat + 1)) ∧ p.didE = 0) := by
      unfold Mt.didM Mt.didE
      by_cases hx : p.a p.me.toNat p.me.toNat = 16777215 <;> simp [he, hx]
    have M : (¬o.err = 0 ∧ True ∧ True ∧ p.meetM o = Mt.zero ∧ p.meetE o = o.err) ∨ (o.err = 0 ∧ ¬p.n = o.n ∧ True ∧ p.meetM o = Mt.zero ∧ p.meetE o = 1) ∨ (o.err = 0 ∧ p.n = o.n ∧ decide (p.me = o.me) = true ∧ p.meetM o = Mt.zero ∧ p.meetE o = 1) ∨ (o.err = 0 ∧ p.n = o.n ∧ decide (p.me = o.me) = false ∧ p.meetM o = p.meet o ∧ p.meetE o = 0) := by
      unfold Mt.meetM Mt.meetE Mt.meetBad
      by_cases ho : o.err = 0 <;> by_cases hn : p.n = o.n <;> by_cases hm : p.me = o.me <;> simp [he, ho, hn, hm]
    generalize p.didM = dM at *
    generalize p.didE = dE at *
    generalize p.meetM o = mM at *
    generalize p.meetE o = mE at *
    rcases key with ⟨rfl, rfl, k1, k2, k3, k4⟩ | ⟨rfl, rfl, k1, k2, k3, k4⟩ | ⟨rfl, rfl, k1, k2, k3, k4⟩ | ⟨rfl, rfl, k1, k2, k3, k4⟩ | ⟨rfl, rfl, k1, k2, k3, k4⟩
    all_goals
      ((try simp [Mt.zero_cs, Mt.eq_cs, S1, he, E5, k1, k2, k3, k4]); (repeat' (first | refine awp_seq ?_ | (refine awp_region tabOk ?_; simp [Mt.zero_cs, Mt.eq_cs, S1, he, E5, k1, k2, k3, k4]) | (refine awp_if ?_; simp [Mt.zero_cs, Mt.eq_cs, S1, he, E5, k1, k2, k3, k4]) | refine awp_block ?_ | refine And.intro ?_ ?_ | intro _ | (refine awp_skip ?_; simp [Mt.zero_cs, Mt.eq_cs, S1, he, E5, k1, k2, k3, k4]) | (refine awp_ret ?_; simp [Mt.zero_cs, Mt.eq_cs, S1, he, E5, k1, k2, k3, k4]) | (refine awp_exit ?_; simp [Mt.zero_cs, Mt.eq_cs, S1, he, E5, k1, k2, k3, k4]))))
      refine ⟨_, matCheck ⟨rfl, rfl⟩, ?_⟩
      ((try simp [Mt.zero_cs, Mt.eq_cs, S1, he, E5, k1, k2, k3, k4]); (repeat' (first | refine awp_seq ?_ | (refine awp_region tabOk ?_; simp [Mt.zero_cs, Mt.eq_cs, S1, he, E5, k1, k2, k3, k4]) | (refine awp_if ?_; simp [Mt.zero_cs, Mt.eq_cs, S1, he, E5, k1, k2, k3, k4]) | refine awp_block ?_ | refine And.intro ?_ ?_ | intro _ | (refine awp_skip ?_; simp [Mt.zero_cs, Mt.eq_cs, S1, he, E5, k1, k2, k3, k4]) | (refine awp_ret ?_; simp [Mt.zero_cs, Mt.eq_cs, S1, he, E5, k1, k2, k3, k4]) | (refine awp_exit ?_; simp [Mt.zero_cs, Mt.eq_cs, S1, he, E5, k1, k2, k3, k4]))))
    all_goals
      refine awp_draw tabOk mixed [] (by kernel_rfl) ?_
      simp
      refine ⟨_, [], refFirm he ⟨rfl, by simp⟩, ?_⟩
      ((try simp [Mt.zero_cs, Mt.eq_cs, S1, he, E5, Mt.eq_vs, Mt.ok_vs]); (repeat' (first | refine awp_seq ?_ | (refine awp_region tabOk ?_; simp [Mt.zero_cs, Mt.eq_cs, S1, he, E5, Mt.eq_vs, Mt.ok_vs]) | (refine awp_if ?_; simp [Mt.zero_cs, Mt.eq_cs, S1, he, E5, Mt.eq_vs, Mt.ok_vs]) | refine awp_block ?_ | refine And.intro ?_ ?_ | intro _ | (refine awp_skip ?_; simp [Mt.zero_cs, Mt.eq_cs, S1, he, E5, Mt.eq_vs, Mt.ok_vs]) | (refine awp_ret ?_; simp [Mt.zero_cs, Mt.eq_cs, S1, he, E5, Mt.eq_vs, Mt.ok_vs]) | (refine awp_exit ?_; simp [Mt.zero_cs, Mt.eq_cs, S1, he, E5, Mt.eq_vs, Mt.ok_vs]))))
      refine awp_draw tabOk mixed [] (by kernel_rfl) ?_
      simp [hm6, g3, a1]
      rcases D with ⟨d1, rfl, rfl⟩ | ⟨d1, rfl, rfl⟩
      · rcases M with ⟨m1, m2, m3, rfl, rfl⟩ | ⟨m1, m2, m3, rfl, rfl⟩ | ⟨m1, m2, m3, rfl, rfl⟩ | ⟨m1, m2, m3, rfl, rfl⟩
        all_goals ((try simp [d1, m1, m2, m3, Mt.eq_cs, S1]); (repeat' (first | refine awp_seq ?_ | (refine awp_region tabOk ?_; simp [d1, m1, m2, m3, Mt.eq_cs, S1]) | (refine awp_if ?_; simp [d1, m1, m2, m3, Mt.eq_cs, S1]) | refine awp_block ?_ | refine And.intro ?_ ?_ | intro _ | (refine awp_skip ?_; simp [d1, m1, m2, m3, Mt.eq_cs, S1]) | (refine awp_ret ?_; simp [d1, m1, m2, m3, Mt.eq_cs, S1]) | (refine awp_exit ?_; simp [d1, m1, m2, m3, Mt.eq_cs, S1]))))
        all_goals first
          | exact ⟨_, _, GcTo.refl (by simp), q _⟩
          | (refine awp_draw tabOk mixed [] (by kernel_rfl) ?_
             simp
             refine ⟨_, [], refMeet he m1 ⟨rfl, by simp⟩, ?_⟩
             ((try simp [Mt.eq_cs, S1]); (repeat' (first | refine awp_seq ?_ | (refine awp_region tabOk ?_; simp [Mt.eq_cs, S1]) | (refine awp_if ?_; simp [Mt.eq_cs, S1]) | refine awp_block ?_ | refine And.intro ?_ ?_ | intro _ | (refine awp_skip ?_; simp [Mt.eq_cs, S1]) | (refine awp_ret ?_; simp [Mt.eq_cs, S1]) | (refine awp_exit ?_; simp [Mt.eq_cs, S1]))))
             exact ⟨_, _, GcTo.refl (by simp), q _⟩)
      · ((try simp [d1, Mt.zero_cs, Mt.eq_cs, S1]); (repeat' (first | refine awp_seq ?_ | (refine awp_region tabOk ?_; simp [d1, Mt.zero_cs, Mt.eq_cs, S1]) | (refine awp_if ?_; simp [d1, Mt.zero_cs, Mt.eq_cs, S1]) | refine awp_block ?_ | refine And.intro ?_ ?_ | intro _ | (refine awp_skip ?_; simp [d1, Mt.zero_cs, Mt.eq_cs, S1]) | (refine awp_ret ?_; simp [d1, Mt.zero_cs, Mt.eq_cs, S1]) | (refine awp_exit ?_; simp [d1, Mt.zero_cs, Mt.eq_cs, S1]))))
        refine awp_draw tabOk mixed [] (by kernel_rfl) ?_
        simp [hm6, g3, a1, st, c1]
        generalize p.setA p.me.toNat p.me.toNat (IntKind.i64.wrap (p.a p.me.toNat p.me.toNat + 1)) = want
        rcases M with ⟨m1, m2, m3, rfl, rfl⟩ | ⟨m1, m2, m3, rfl, rfl⟩ | ⟨m1, m2, m3, rfl, rfl⟩ | ⟨m1, m2, m3, rfl, rfl⟩
        all_goals ((try simp [d1, m1, m2, m3, Mt.eq_cs, S1]); (repeat' (first | refine awp_seq ?_ | (refine awp_region tabOk ?_; simp [d1, m1, m2, m3, Mt.eq_cs, S1]) | (refine awp_if ?_; simp [d1, m1, m2, m3, Mt.eq_cs, S1]) | refine awp_block ?_ | refine And.intro ?_ ?_ | intro _ | (refine awp_skip ?_; simp [d1, m1, m2, m3, Mt.eq_cs, S1]) | (refine awp_ret ?_; simp [d1, m1, m2, m3, Mt.eq_cs, S1]) | (refine awp_exit ?_; simp [d1, m1, m2, m3, Mt.eq_cs, S1]))))
        all_goals first
          | exact ⟨_, _, GcTo.refl (by simp), q _⟩
          | (refine awp_draw tabOk mixed [] (by kernel_rfl) ?_
             simp
             refine ⟨_, [], refMeet he m1 ⟨rfl, by simp⟩, ?_⟩
             ((try simp [Mt.eq_cs, S1]); (repeat' (first | refine awp_seq ?_ | (refine awp_region tabOk ?_; simp [Mt.eq_cs, S1]) | (refine awp_if ?_; simp [Mt.eq_cs, S1]) | refine awp_block ?_ | refine And.intro ?_ ?_ | intro _ | (refine awp_skip ?_; simp [Mt.eq_cs, S1]) | (refine awp_ret ?_; simp [Mt.eq_cs, S1]) | (refine awp_exit ?_; simp [Mt.eq_cs, S1]))))
             exact ⟨_, _, GcTo.refl (by simp), q _⟩)
  · have E1 : p.didM = Mt.zero := if_pos he
    have E2 : p.didE = p.err := if_pos he
    have E3 : p.meetM o = Mt.zero := if_pos he
    have E4 : p.meetE o = p.err := if_pos he
    have E5 : p.firmV = [.int .i64 0, .int .i64 0, .int .i64 0, .int .i64 0, .int .i64 0, .int .i64 0] := if_pos he
    rcases key with ⟨rfl, rfl, k1, k2, k3, k4⟩ | ⟨rfl, rfl, k1, k2, k3, k4⟩ | ⟨rfl, rfl, k1, k2, k3, k4⟩ | ⟨rfl, rfl, k1, k2, k3, k4⟩ | ⟨rfl, rfl, k1, k2, k3, k4⟩
    all_goals
      ((try simp [Mt.zero_cs, Mt.eq_cs, S1, he, E1, E2, E3, E4, E5, k1, k2, k3, k4]); (repeat' (first | refine awp_seq ?_ | (refine awp_region tabOk ?_; simp [Mt.zero_cs, Mt.eq_cs, S1, he, E1, E2, E3, E4, E5, k1, k2, k3, k4]) | (refine awp_if ?_; simp [Mt.zero_cs, Mt.eq_cs, S1, he, E1, E2, E3, E4, E5, k1, k2, k3, k4]) | refine awp_block ?_ | refine And.intro ?_ ?_ | intro _ | (refine awp_skip ?_; simp [Mt.zero_cs, Mt.eq_cs, S1, he, E1, E2, E3, E4, E5, k1, k2, k3, k4]) | (refine awp_ret ?_; simp [Mt.zero_cs, Mt.eq_cs, S1, he, E1, E2, E3, E4, E5, k1, k2, k3, k4]) | (refine awp_exit ?_; simp [Mt.zero_cs, Mt.eq_cs, S1, he, E1, E2, E3, E4, E5, k1, k2, k3, k4]))))
      refine ⟨_, matCheck ⟨rfl, rfl⟩, ?_⟩
      ((try simp [Mt.zero_cs, Mt.eq_cs, S1, he, E1, E2, E3, E4, E5, k1, k2, k3, k4]); (repeat' (first | refine awp_seq ?_ | (refine awp_region tabOk ?_; simp [Mt.zero_cs, Mt.eq_cs, S1, he, E1, E2, E3, E4, E5, k1, k2, k3, k4]) | (refine awp_if ?_; simp [Mt.zero_cs, Mt.eq_cs, S1, he, E1, E2, E3, E4, E5, k1, k2, k3, k4]) | refine awp_block ?_ | refine And.intro ?_ ?_ | intro _ | (refine awp_skip ?_; simp [Mt.zero_cs, Mt.eq_cs, S1, he, E1, E2, E3, E4, E5, k1, k2, k3, k4]) | (refine awp_ret ?_; simp [Mt.zero_cs, Mt.eq_cs, S1, he, E1, E2, E3, E4, E5, k1, k2, k3, k4]) | (refine awp_exit ?_; simp [Mt.zero_cs, Mt.eq_cs, S1, he, E1, E2, E3, E4, E5, k1, k2, k3, k4]))))
      exact ⟨_, _, GcTo.refl (by simp), q _⟩
end Go.Proofs.Ytdeockoaalpcjaa
