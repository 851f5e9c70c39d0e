/- MatSays: the law as a call. -/
import Derived.Test.YtdeockoaalpcjaaM7
import Derived.Test.YtdeockoaalpcjaaB3
import Derived.Test.YtdeockoaalpcjaaFit
namespace Go.Proofs.Ytdeockoaalpcjaa
open Go.RowKit
theorem fit_ints {w : World} : ∀ {n : Nat} {cs : List Value}, Fit w (List.replicate n (.int .i64)) cs → ∃ f : Nat → Int, cs.length = n ∧ ∀ q, q < n → cs[q]? = some (.int .i64 (f q))
  | 0, cs, h => ⟨fun _ => 0, by simpa using h.length, fun q hq => by omega⟩
  | n + 1, cs, h => by
    obtain ⟨v, vs, rfl, h1, h2⟩ := Fit.cons_inv h
    obtain ⟨x, rfl, _⟩ := h1.int_inv
    obtain ⟨f, h3, h4⟩ := fit_ints h2
    refine ⟨fun q => match q with | 0 => x | q + 1 => f q, by simp [h3], fun q hq => ?_⟩
    cases q with
    | zero => rfl
    | succ q => simpa using h4 q (by omega)
theorem fit_mat {w : World} {cs : List Value} (h : Fit w (List.replicate 38 (.int .i64)) cs) : ∃ p : Mt, ∀ ρ : Map, relC ρ (.agg p.cs) (.agg cs.toArray) := by
  obtain ⟨f, h1, h2⟩ := fit_ints h
  refine ⟨⟨f 0, f 1, fun i j => f (2 + i * 6 + j)⟩, fun ρ => ⟨_, rfl, by simp [h1], fun j x hj => ?_⟩⟩
  have hlt : j < 38 := by have := (List.getElem?_eq_some_iff.1 hj).1; simpa using this
  have hv := h2 j hlt
  refine ⟨_, by simpa using hv, ?_⟩
  match j, hlt with
  | 0, _ => rw [Mt.at_n] at hj; cases hj; rfl
  | 1, _ => rw [Mt.at_me] at hj; cases hj; rfl
  | j + 2, hlt =>
    have e := Mt.at_a ⟨f 0, f 1, fun i j => f (2 + i * 6 + j)⟩ (i := j / 6) (j := j % 6) (by omega) (by omega)
    rw [show 2 + j / 6 * 6 + j % 6 = j + 2 by omega, hj] at e
    cases e
    show Value.int .i64 (f (j + 2)) = .int .i64 (f (2 + j / 6 * 6 + j % 6))
    rw [show 2 + j / 6 * 6 + j % 6 = j + 2 by omega]
theorem MatSays_walk (W : World) (cs : Array Value) (h : Fit W (List.replicate 38 (.int .i64)) cs.toList) (ds : Array Value) (k : Fit W (List.replicate 38 (.int .i64)) ds.toList)
    (n : Int) (_ : (Lit.int .i64 n).wf = true) (me : Int) (_ : (Lit.int .i64 me).wf = true) :
    Calls Try.prog 5 #[.agg cs, .agg ds, .int .i64 n, .int .i64 me] W fun e w' => e = .returned (.bool true) ∧ Below W.heap.size W w' := by
  obtain ⟨p, hp⟩ := fit_mat h
  obtain ⟨o, ho⟩ := fit_mat k
  exact calls_law (mat_law (p := p) (o := o) (n := n) (me := me) fun _ => rfl) (relArgs_list (vs := [.agg cs, .agg ds, .int .i64 n, .int .i64 me]) ⟨by simpa using hp _, by simpa using ho _, rfl, rfl, trivial⟩) (rel_none W) (fun i b h => by simp at h)
end Go.Proofs.Ytdeockoaalpcjaa
