/- PulseSays: the law as a call. -/
import Derived.Test.YtdeockoaalpcjaaP6
import Derived.Test.YtdeockoaalpcjaaB3
import Derived.Test.YtdeockoaalpcjaaFit
namespace Go.Proofs.Ytdeockoaalpcjaa
open Go.RowKit
theorem fit_pulse {w : World} {cs : List Value} (h : Fit w [.int .i64, .int .i64, .int .i64, .int .i64, .int .i64, .int .i64, .int .i64, .int .i64, .int .i64, .int .i64, .int .i64, .int .i64, .int .i64, .int .i64, .bool, .bool, .bool, .bool, .bool, .bool] cs) :
    ∃ p : Pu, ∀ ρ : Map, relC ρ (.agg p.cs) (.agg cs.toArray) := by
  rcases h with _ | ⟨⟨⟩, h⟩
  rcases h with _ | ⟨⟨⟩, h⟩
  rcases h with _ | ⟨⟨⟩, h⟩
  rcases h with _ | ⟨⟨⟩, h⟩
  rcases h with _ | ⟨⟨⟩, h⟩
  rcases h with _ | ⟨⟨⟩, h⟩
  rcases h with _ | ⟨⟨⟩, h⟩
  rcases h with _ | ⟨⟨⟩, h⟩
  rcases h with _ | ⟨⟨⟩, h⟩
  rcases h with _ | ⟨⟨⟩, h⟩
  rcases h with _ | ⟨⟨⟩, h⟩
  rcases h with _ | ⟨⟨⟩, h⟩
  rcases h with _ | ⟨⟨⟩, h⟩
  rcases h with _ | ⟨⟨⟩, h⟩
  rcases h with _ | ⟨⟨⟩, h⟩
  rcases h with _ | ⟨⟨⟩, h⟩
  rcases h with _ | ⟨⟨⟩, h⟩
  rcases h with _ | ⟨⟨⟩, h⟩
  rcases h with _ | ⟨⟨⟩, h⟩
  rcases h with _ | ⟨⟨⟩, h⟩
  rcases h with _ | _
  rename_i me _ now _ l0 _ l1 _ l2 _ l3 _ l4 _ l5 _ w0 _ w1 _ w2 _ w3 _ w4 _ w5 _ d0 d1 d2 d3 d4 d5
  refine ⟨⟨me, now, fun | 0 => l0 | 1 => l1 | 2 => l2 | 3 => l3 | 4 => l4 | _ => l5, fun | 0 => w0 | 1 => w1 | 2 => w2 | 3 => w3 | 4 => w4 | _ => w5, fun | 0 => d0 | 1 => d1 | 2 => d2 | 3 => d3 | 4 => d4 | _ => d5⟩, fun ρ => relC_acB (by simp [Pu.cs, Pu.ls, Pu.ds, acB, scsB, scB])⟩
theorem PulseSays_walk (W : World) (cs : Array Value) (h : Fit W [.int .i64, .int .i64, .int .i64, .int .i64, .int .i64, .int .i64, .int .i64, .int .i64, .int .i64, .int .i64, .int .i64, .int .i64, .int .i64, .int .i64, .bool, .bool, .bool, .bool, .bool, .bool] cs.toList)
    (a : Int) (_ : (Lit.int .i64 a).wf = true) (b : Int) (_ : (Lit.int .i64 b).wf = true) (m : Int) (_ : (Lit.int .i64 m).wf = true) :
    Calls Try.prog 7 #[.agg cs, .int .i64 a, .int .i64 b, .int .i64 m] W fun e w' => e = .returned (.bool true) ∧ Below W.heap.size W w' := by
  obtain ⟨p, hp⟩ := fit_pulse h
  exact calls_law (pulse_law (p := p) (a := a) (b := b) (m := m) fun _ => rfl) (relArgs_list (vs := [.agg cs, .int .i64 a, .int .i64 b, .int .i64 m]) ⟨by simpa using hp _, rfl, rfl, rfl, trivial⟩) (rel_none W) (fun i b h => by simp at h)
end Go.Proofs.Ytdeockoaalpcjaa
