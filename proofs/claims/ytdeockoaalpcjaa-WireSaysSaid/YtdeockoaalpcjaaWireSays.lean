/- WireSays: the law as a call. -/
import Derived.Test.YtdeockoaalpcjaaWh
import Derived.Test.YtdeockoaalpcjaaB3
import Derived.Test.YtdeockoaalpcjaaFit
namespace Go.Proofs.Ytdeockoaalpcjaa
open Go.RowKit
theorem fit_note {w : World} {cs : List Value} (h : Fit w [.int .i64, .int .i64, .int .i64, .int .i64, .int .i64, .int .i64, .int .i64, .int .i64, .int .i64, .int .i64, .int .i64, .str] cs) : ∃ p : Nt, ∀ ρ : Map, relC ρ (.agg p.cs) (.agg cs.toArray) := by
  rcases h with _ | ⟨⟨⟩, h⟩
  rcases h with _ | ⟨⟨⟩, h⟩
  rcases h with _ | ⟨⟨⟩, h⟩
  rcases h with _ | ⟨⟨⟩, h⟩
  rcases h with _ | ⟨⟨⟩, h⟩
  rcases h with _ | ⟨⟨⟩, h⟩
  rcases h with _ | ⟨⟨⟩, h⟩
  rcases h with _ | ⟨⟨⟩, h⟩
  rcases h with _ | ⟨⟨⟩, h⟩
  rcases h with _ | ⟨⟨⟩, h⟩
  rcases h with _ | ⟨⟨⟩, h⟩
  rcases h with _ | ⟨⟨⟩, h⟩
  rcases h with _ | _
  rename_i a _ b _ c _ d _ e _ f0 _ f1 _ f2 _ f3 _ f4 _ f5 _ t _
  exact ⟨⟨a, b, c, d, e, fun | 0 => f0 | 1 => f1 | 2 => f2 | 3 => f3 | 4 => f4 | _ => f5, t⟩, fun ρ => relC_acB (by simp [Nt.cs, acB, scsB, scB])⟩
theorem WireSays_walk (W : World) (cs : Array Value) (h : Fit W [.int .i64, .int .i64, .int .i64, .int .i64, .int .i64, .int .i64, .int .i64, .int .i64, .int .i64, .int .i64, .int .i64, .str] cs.toList) (s : ByteArray) (hs : s.size ≤ maxLen) :
    Calls Try.prog 8 #[.agg cs, .string s] W fun e w' => e = .returned (.bool true) ∧ Below W.heap.size W w' := by
  obtain ⟨p, hp⟩ := fit_note h
  have hs' : s.size ≤ 9223372036854775807 := hs
  exact calls_law (wire_law (p := p) (s := s) hs' fun _ => rfl) (relArgs_list (vs := [.agg cs, .string s]) ⟨by simpa using hp _, rfl, trivial⟩) (rel_none W) (fun i b h => by simp at h)
end Go.Proofs.Ytdeockoaalpcjaa
