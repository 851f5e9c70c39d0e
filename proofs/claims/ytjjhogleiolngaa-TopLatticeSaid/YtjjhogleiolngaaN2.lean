/- Arguments that are slices of structs, histories, vectors. No program stands here. -/
import Derived.Test.YtjjhogleiolngaaB4
import Derived.Test.YtjjhogleiolngaaVa
import Derived.Test.YtjjhogleiolngaaM1
namespace Go.Proofs.Ytjjhogleiolngaa
set_option linter.unusedVariables false
open Go.RowKit
theorem gsl_of {α : Type} {enc : α → List Sc} {es : Nat} (hl : ∀ x, (enc x).length = es) (h0 : 0 < es) {w : World} {v : Value} {xs : List α} {L : Loc} {blk : Blk} {a : Nat → Sc} (h : InS w enc es v xs L blk a) {H : List Blk} {id : Nat} (hH : H[id]? = some blk) : GSl es enc H (a id) xs := by
  rcases h.sl with ⟨rfl, g | g⟩ | ⟨cap, cs, g, h1, h3, rfl, h2⟩
  · exact .inl ⟨rfl, .inl (g id)⟩
  · exact .inl ⟨rfl, .inr (g id)⟩
  · refine .inr ⟨id, 0, cap, cs, g id, h1, by omega, by rw [hH]; rfl, ?_⟩
    rw [List.drop_zero]
    apply List.ext_getElem?
    intro q
    have hfl : (xs.flatMap enc).length = xs.length * es := flat_len hl _
    by_cases hq : q < xs.length * es
    · obtain ⟨y, hy⟩ : ∃ y, (xs.flatMap enc)[q]? = some y := ⟨_, List.getElem?_eq_getElem (by omega)⟩
      obtain ⟨i, x, j, q1, q2, rfl⟩ := flat_cells hl h0 hy
      rw [List.getElem?_take_of_lt hq, hy, h2 i x q1 j y q2]
    · rw [List.getElem?_eq_none (by rw [List.length_take]; omega), List.getElem?_eq_none (by omega)]
theorem fit_ev {w : World} {cs : List Value} (h : Fit w [.int .i64, .int .i64, .int .i64] cs) : ∃ x : Ev, scsB x.enc cs = true ∧ True := by
  rcases h with _ | ⟨⟨⟩, h⟩
  rcases h with _ | ⟨⟨⟩, h⟩
  rcases h with _ | ⟨⟨⟩, h⟩
  rcases h with _ | _
  rename_i a _ b _ c _
  exact ⟨⟨a, b, c⟩, by simp [Ev.enc, scsB, scB], trivial⟩
theorem in_evs {w : World} {v : Value} (h : Fit1 w (.slice [.int .i64, .int .i64, .int .i64]) v) : ∃ (xs : List Ev) (L : Loc) (blk : Blk) (a : Nat → Sc), InS w Ev.enc 3 v xs L blk a := by
  obtain ⟨xs, L, blk, a, h1, _⟩ := in_slice (enc := Ev.enc) (Q := fun _ => True) h (by simp) (fun _ => rfl) (fun cs hcs => fit_ev hcs)
  exact ⟨xs, L, blk, a, h1⟩
theorem fit_vs {w : World} {cs : Array Value} (h : Fit w [.int .i64, .int .i64, .int .i64, .int .i64, .int .i64, .int .i64] cs.toList) : ∃ f : Nat → Int, ∀ ρ, relC ρ (.agg (Mt.vs f)) (.agg cs) := by
  obtain ⟨l, rfl⟩ : ∃ l : List Value, cs = l.toArray := ⟨cs.toList, by simp⟩
  rw [List.toList_toArray] at h
  rcases h with _ | ⟨⟨⟩, h⟩
  rcases h with _ | ⟨⟨⟩, h⟩
  rcases h with _ | ⟨⟨⟩, h⟩
  rcases h with _ | ⟨⟨⟩, h⟩
  rcases h with _ | ⟨⟨⟩, h⟩
  rcases h with _ | ⟨⟨⟩, h⟩
  rcases h with _ | _
  rename_i a _ b _ c _ d _ e _ f _
  refine ⟨fun | 0 => a | 1 => b | 2 => c | 3 => d | 4 => e | _ => f, fun ρ => ?_⟩
  exact relC_acB (x := .agg (Mt.vs _)) (v := .agg _) (by simp [Mt.vs, acB, scsB, scB])
end Go.Proofs.Ytjjhogleiolngaa
