/-
  No cell of these rows narrows 'for every input' (looked for: loops, veiled, ifaces, maps, wideKeys, modest, calm, conditions, laid).
  DERIVED. THE GIVEN ROWS OF THIS SEAT. 12 by the template 'for every input the law returns true; each argument reads behind the call as it read before'; 0 by the template 'total and deterministic' (their statements: YtjjhogleiolngaaTotals.lean).
  GIVEN WITH THE SEED: the statements are not yours to turn. If you find one false, say at which input.
  Laid BY PROGRAM, IN A SANDBOX (cutbox-rows.mjs): the forced cells as the released guide's own fill.sh prints them over the translation 7ab5297cc4fbb535… (all of the seat's roots in one cut). By AI agents, Wed Nov 11 2026. No macro, syntax, notation, axiom, sorry.
-/
import Derived.Test.YtjjhogleiolngaaChecked
import GoSem.Claim
import GoSem.ClaimJoined
import GoSem.ClaimMapViews
import Derived.JoinedTies
import Derived.KernelRfl
namespace Go.Proofs.Ytjjhogleiolngaa
/- THE CELL 'sum', in the pinned program and in every row, IS THE sha256 OF THE DUMP (.gsa) THAT YtjjhogleiolngaaProg.lean LOADS. Nothing in Lean hashes anything: it is a label: what it is worth is what the hold of that sum in a sandbox is worth. -/
noncomputable def Try.pinned : Pinned := { name := "ytjjhogleiolngaa", sum := "7ab5297cc4fbb5350a1f2c586d58cb25d5d4f4e3103baf24824b3a295e7be349", checked := Try.checked }
namespace Rows
def none {H : Type} : Left H := { results := [], args := [] }

/-- 'partlaw.VectSays': WHATEVER THE INPUT: true; the input reads as it did. -/
def vectSaysSpec : ChangeSpec := { name := "vectSays", fn := fun _ => fun
  | [d1, d2, d3] => { results := [.lit (.bool true)], args := [d1, d2, d3] }
  | _ => none }
def vectSaysRow : OpenClaim := { program := "ytjjhogleiolngaa", sum := "7ab5297cc4fbb5350a1f2c586d58cb25d5d4f4e3103baf24824b3a295e7be349", func := "partsong/partlaw.VectSays", spec := "vectSays", apart := false }
def VectSaysSaid : Prop := vectSaysRow.holds Try.pinned (OpenSpec.ofChange vectSaysSpec)

/-- ITS FALSE NEIGHBOUR: 'it returns false'. Refute it at one input. -/
def vectSaysWrong : ChangeSpec := { name := "vectSays", fn := fun _ => fun
  | [d1, d2, d3] => { results := [.lit (.bool false)], args := [d1, d2, d3] }
  | _ => none }
def VectSaysWrongFalsely : Prop := vectSaysRow.holds Try.pinned (OpenSpec.ofChange vectSaysWrong)

/-- 'partlaw.LatDowns': WHATEVER THE INPUT: true; the input reads as it did. -/
def latDownsSpec : ChangeSpec := { name := "latDowns", fn := fun _ => fun
  | [d] => { results := [.lit (.bool true)], args := [d] }
  | _ => none }
def latDownsRow : OpenClaim := { program := "ytjjhogleiolngaa", sum := "7ab5297cc4fbb5350a1f2c586d58cb25d5d4f4e3103baf24824b3a295e7be349", func := "partsong/partlaw.LatDowns", spec := "latDowns", apart := false }
def LatDownsSaid : Prop := latDownsRow.holds Try.pinned (OpenSpec.ofChange latDownsSpec)

/-- ITS FALSE NEIGHBOUR: 'it returns false'. Refute it at one input. -/
def latDownsWrong : ChangeSpec := { name := "latDowns", fn := fun _ => fun
  | [d] => { results := [.lit (.bool false)], args := [d] }
  | _ => none }
def LatDownsWrongFalsely : Prop := latDownsRow.holds Try.pinned (OpenSpec.ofChange latDownsWrong)

/-- 'partlaw.LatMaps': WHATEVER THE INPUT: true; the input reads as it did. -/
def latMapsSpec : ChangeSpec := { name := "latMaps", fn := fun _ => fun
  | [d1, d2] => { results := [.lit (.bool true)], args := [d1, d2] }
  | _ => none }
def latMapsRow : OpenClaim := { program := "ytjjhogleiolngaa", sum := "7ab5297cc4fbb5350a1f2c586d58cb25d5d4f4e3103baf24824b3a295e7be349", func := "partsong/partlaw.LatMaps", spec := "latMaps", apart := false }
def LatMapsSaid : Prop := latMapsRow.holds Try.pinned (OpenSpec.ofChange latMapsSpec)

/-- ITS FALSE NEIGHBOUR: 'it returns false'. Refute it at one input. -/
def latMapsWrong : ChangeSpec := { name := "latMaps", fn := fun _ => fun
  | [d1, d2] => { results := [.lit (.bool false)], args := [d1, d2] }
  | _ => none }
def LatMapsWrongFalsely : Prop := latMapsRow.holds Try.pinned (OpenSpec.ofChange latMapsWrong)

/-- 'partlaw.LatSays': WHATEVER THE INPUT: true; the input reads as it did. -/
def latSaysSpec : ChangeSpec := { name := "latSays", fn := fun _ => fun
  | [d1, d2, d3] => { results := [.lit (.bool true)], args := [d1, d2, d3] }
  | _ => none }
def latSaysRow : OpenClaim := { program := "ytjjhogleiolngaa", sum := "7ab5297cc4fbb5350a1f2c586d58cb25d5d4f4e3103baf24824b3a295e7be349", func := "partsong/partlaw.LatSays", spec := "latSays", apart := false }
def LatSaysSaid : Prop := latSaysRow.holds Try.pinned (OpenSpec.ofChange latSaysSpec)

/-- ITS FALSE NEIGHBOUR: 'it returns false'. Refute it at one input. -/
def latSaysWrong : ChangeSpec := { name := "latSays", fn := fun _ => fun
  | [d1, d2, d3] => { results := [.lit (.bool false)], args := [d1, d2, d3] }
  | _ => none }
def LatSaysWrongFalsely : Prop := latSaysRow.holds Try.pinned (OpenSpec.ofChange latSaysWrong)

/-- 'partlaw.CutAll': WHATEVER THE INPUT: true; the input reads as it did. -/
def cutAllSpec : ChangeSpec := { name := "cutAll", fn := fun _ => fun
  | [d] => { results := [.lit (.bool true)], args := [d] }
  | _ => none }
def cutAllRow : OpenClaim := { program := "ytjjhogleiolngaa", sum := "7ab5297cc4fbb5350a1f2c586d58cb25d5d4f4e3103baf24824b3a295e7be349", func := "partsong/partlaw.CutAll", spec := "cutAll", unfollowed := true, recurses := true, apart := false }
def CutAllSaid : Prop := cutAllRow.holds Try.pinned (OpenSpec.ofChange cutAllSpec)

/-- ITS FALSE NEIGHBOUR: 'it returns false'. Refute it at one input. -/
def cutAllWrong : ChangeSpec := { name := "cutAll", fn := fun _ => fun
  | [d] => { results := [.lit (.bool false)], args := [d] }
  | _ => none }
def CutAllWrongFalsely : Prop := cutAllRow.holds Try.pinned (OpenSpec.ofChange cutAllWrong)

/-- 'partlaw.CutSays': WHATEVER THE INPUT: true; the input reads as it did. -/
def cutSaysSpec : ChangeSpec := { name := "cutSays", fn := fun _ => fun
  | [d1, d2] => { results := [.lit (.bool true)], args := [d1, d2] }
  | _ => none }
def cutSaysRow : OpenClaim := { program := "ytjjhogleiolngaa", sum := "7ab5297cc4fbb5350a1f2c586d58cb25d5d4f4e3103baf24824b3a295e7be349", func := "partsong/partlaw.CutSays", spec := "cutSays", apart := false }
def CutSaysSaid : Prop := cutSaysRow.holds Try.pinned (OpenSpec.ofChange cutSaysSpec)

/-- ITS FALSE NEIGHBOUR: 'it returns false'. Refute it at one input. -/
def cutSaysWrong : ChangeSpec := { name := "cutSays", fn := fun _ => fun
  | [d1, d2] => { results := [.lit (.bool false)], args := [d1, d2] }
  | _ => none }
def CutSaysWrongFalsely : Prop := cutSaysRow.holds Try.pinned (OpenSpec.ofChange cutSaysWrong)

/-- 'parttop.TopCauses': WHATEVER THE INPUT: true; the input reads as it did. -/
def topCausesSpec : ChangeSpec := { name := "topCauses", fn := fun _ => fun
  | [d] => { results := [.lit (.bool true)], args := [d] }
  | _ => none }
def topCausesRow : OpenClaim := { program := "ytjjhogleiolngaa", sum := "7ab5297cc4fbb5350a1f2c586d58cb25d5d4f4e3103baf24824b3a295e7be349", func := "partsong/parttop.TopCauses", spec := "topCauses", apart := false }
def TopCausesSaid : Prop := topCausesRow.holds Try.pinned (OpenSpec.ofChange topCausesSpec)

/-- ITS FALSE NEIGHBOUR: 'it returns false'. Refute it at one input. -/
def topCausesWrong : ChangeSpec := { name := "topCauses", fn := fun _ => fun
  | [d] => { results := [.lit (.bool false)], args := [d] }
  | _ => none }
def TopCausesWrongFalsely : Prop := topCausesRow.holds Try.pinned (OpenSpec.ofChange topCausesWrong)

/-- 'parttop.TopLattice': WHATEVER THE INPUT: true; the input reads as it did. -/
def topLatticeSpec : ChangeSpec := { name := "topLattice", fn := fun _ => fun
  | [d] => { results := [.lit (.bool true)], args := [d] }
  | _ => none }
def topLatticeRow : OpenClaim := { program := "ytjjhogleiolngaa", sum := "7ab5297cc4fbb5350a1f2c586d58cb25d5d4f4e3103baf24824b3a295e7be349", func := "partsong/parttop.TopLattice", spec := "topLattice", apart := false }
def TopLatticeSaid : Prop := topLatticeRow.holds Try.pinned (OpenSpec.ofChange topLatticeSpec)

/-- ITS FALSE NEIGHBOUR: 'it returns false'. Refute it at one input. -/
def topLatticeWrong : ChangeSpec := { name := "topLattice", fn := fun _ => fun
  | [d] => { results := [.lit (.bool false)], args := [d] }
  | _ => none }
def TopLatticeWrongFalsely : Prop := topLatticeRow.holds Try.pinned (OpenSpec.ofChange topLatticeWrong)

/-- 'partlaw.StampSays': WHATEVER THE INPUT: true; the input reads as it did. -/
def stampSaysSpec : ChangeSpec := { name := "stampSays", fn := fun _ => fun
  | [d] => { results := [.lit (.bool true)], args := [d] }
  | _ => none }
def stampSaysRow : OpenClaim := { program := "ytjjhogleiolngaa", sum := "7ab5297cc4fbb5350a1f2c586d58cb25d5d4f4e3103baf24824b3a295e7be349", func := "partsong/partlaw.StampSays", spec := "stampSays", unfollowed := true, recurses := true, apart := false }
def StampSaysSaid : Prop := stampSaysRow.holds Try.pinned (OpenSpec.ofChange stampSaysSpec)

/-- ITS FALSE NEIGHBOUR: 'it returns false'. Refute it at one input. -/
def stampSaysWrong : ChangeSpec := { name := "stampSays", fn := fun _ => fun
  | [d] => { results := [.lit (.bool false)], args := [d] }
  | _ => none }
def StampSaysWrongFalsely : Prop := stampSaysRow.holds Try.pinned (OpenSpec.ofChange stampSaysWrong)

/-- 'partlaw.OverSays': WHATEVER THE INPUT: true; the input reads as it did. -/
def overSaysSpec : ChangeSpec := { name := "overSays", fn := fun _ => fun
  | [d1, d2, d3, d4, d5] => { results := [.lit (.bool true)], args := [d1, d2, d3, d4, d5] }
  | _ => none }
def overSaysRow : OpenClaim := { program := "ytjjhogleiolngaa", sum := "7ab5297cc4fbb5350a1f2c586d58cb25d5d4f4e3103baf24824b3a295e7be349", func := "partsong/partlaw.OverSays", spec := "overSays", apart := false }
def OverSaysSaid : Prop := overSaysRow.holds Try.pinned (OpenSpec.ofChange overSaysSpec)

/-- ITS FALSE NEIGHBOUR: 'it returns false'. Refute it at one input. -/
def overSaysWrong : ChangeSpec := { name := "overSays", fn := fun _ => fun
  | [d1, d2, d3, d4, d5] => { results := [.lit (.bool false)], args := [d1, d2, d3, d4, d5] }
  | _ => none }
def OverSaysWrongFalsely : Prop := overSaysRow.holds Try.pinned (OpenSpec.ofChange overSaysWrong)

/-- 'partlaw.TurnSays': WHATEVER THE INPUT: true; the input reads as it did. -/
def turnSaysSpec : ChangeSpec := { name := "turnSays", fn := fun _ => fun
  | [d1, d2] => { results := [.lit (.bool true)], args := [d1, d2] }
  | _ => none }
def turnSaysRow : OpenClaim := { program := "ytjjhogleiolngaa", sum := "7ab5297cc4fbb5350a1f2c586d58cb25d5d4f4e3103baf24824b3a295e7be349", func := "partsong/partlaw.TurnSays", spec := "turnSays", unfollowed := true, recurses := true, apart := false }
def TurnSaysSaid : Prop := turnSaysRow.holds Try.pinned (OpenSpec.ofChange turnSaysSpec)

/-- ITS FALSE NEIGHBOUR: 'it returns false'. Refute it at one input. -/
def turnSaysWrong : ChangeSpec := { name := "turnSays", fn := fun _ => fun
  | [d1, d2] => { results := [.lit (.bool false)], args := [d1, d2] }
  | _ => none }
def TurnSaysWrongFalsely : Prop := turnSaysRow.holds Try.pinned (OpenSpec.ofChange turnSaysWrong)

/-- 'partlaw.FlushSays': WHATEVER THE INPUT: true; the input reads as it did. -/
def flushSaysSpec : ChangeSpec := { name := "flushSays", fn := fun _ => fun
  | [d1, d2, d3, d4, d5] => { results := [.lit (.bool true)], args := [d1, d2, d3, d4, d5] }
  | _ => none }
def flushSaysRow : OpenClaim := { program := "ytjjhogleiolngaa", sum := "7ab5297cc4fbb5350a1f2c586d58cb25d5d4f4e3103baf24824b3a295e7be349", func := "partsong/partlaw.FlushSays", spec := "flushSays", unfollowed := true, recurses := true, apart := false }
def FlushSaysSaid : Prop := flushSaysRow.holds Try.pinned (OpenSpec.ofChange flushSaysSpec)

/-- ITS FALSE NEIGHBOUR: 'it returns false'. Refute it at one input. -/
def flushSaysWrong : ChangeSpec := { name := "flushSays", fn := fun _ => fun
  | [d1, d2, d3, d4, d5] => { results := [.lit (.bool false)], args := [d1, d2, d3, d4, d5] }
  | _ => none }
def FlushSaysWrongFalsely : Prop := flushSaysRow.holds Try.pinned (OpenSpec.ofChange flushSaysWrong)

/- THE SECOND FORM. 'bulk': how many values and letters a reading holds, each counted each time it is reached (what is shared counts as often as it is met; a slice's spare places count too). A statement '..UptoSaid' is the law's where the arguments, and the package variables that the reading takes, are together of bulk at most 1048576: NARROWER than '..Said'. Prove '..Said' where nothing that the law and all that it calls make is longer than what came in: it says more and counts as full. Else prove '..UptoSaid'. A law counts once. -/
mutual
def uptoBulk {H : Type} : DataW H → Nat
  | .lit (.string bytes) => bytes.length + 1
  | .lit _ => 1
  | .nil => 1
  | .ptr d => uptoBulk d + 1
  | .slice elems spare => uptoBulkAll elems + uptoBulkAll spare + 1
  | .agg parts => uptoBulkAll parts + 1
  | .iface _ d => uptoBulk d + 1
  | .map entries => uptoBulkEntries entries + 1
  | .held _ => 1
def uptoBulkAll {H : Type} : List (DataW H) → Nat
  | [] => 0
  | d :: r => uptoBulk d + uptoBulkAll r
def uptoBulkEntries {H : Type} : List (Lit × DataW H) → Nat
  | [] => 0
  | x :: r => uptoBulkEntry x + uptoBulkEntries r
def uptoBulkEntry {H : Type} : Lit × DataW H → Nat
  | (.string bytes, d) => bytes.length + uptoBulk d + 1
  | (_, d) => uptoBulk d + 1
 end
def uptoSmall : (H : Type) → List (DataW H) → Bool := fun _ ds => decide (uptoBulkAll ds ≤ 1048576)
def OpenSpec.upto (s : _root_.Go.ChangeSpec) : _root_.Go.OpenSpec := { _root_.Go.OpenSpec.ofChange s with cond := some uptoSmall }

/-- 'partlaw.VectSays', WHERE WHAT IT READS IS OF BULK AT MOST 1048576: true; the input reads as it did. -/
def vectSaysUptoRow : OpenClaim := { program := "ytjjhogleiolngaa", sum := "7ab5297cc4fbb5350a1f2c586d58cb25d5d4f4e3103baf24824b3a295e7be349", func := "partsong/partlaw.VectSays", spec := "vectSays", apart := false, narrowed := true }
def VectSaysUptoSaid : Prop := vectSaysUptoRow.holds Try.pinned (OpenSpec.upto vectSaysSpec)

/-- 'partlaw.LatDowns', WHERE WHAT IT READS IS OF BULK AT MOST 1048576: true; the input reads as it did. -/
def latDownsUptoRow : OpenClaim := { program := "ytjjhogleiolngaa", sum := "7ab5297cc4fbb5350a1f2c586d58cb25d5d4f4e3103baf24824b3a295e7be349", func := "partsong/partlaw.LatDowns", spec := "latDowns", apart := false, narrowed := true }
def LatDownsUptoSaid : Prop := latDownsUptoRow.holds Try.pinned (OpenSpec.upto latDownsSpec)

/-- 'partlaw.LatMaps', WHERE WHAT IT READS IS OF BULK AT MOST 1048576: true; the input reads as it did. -/
def latMapsUptoRow : OpenClaim := { program := "ytjjhogleiolngaa", sum := "7ab5297cc4fbb5350a1f2c586d58cb25d5d4f4e3103baf24824b3a295e7be349", func := "partsong/partlaw.LatMaps", spec := "latMaps", apart := false, narrowed := true }
def LatMapsUptoSaid : Prop := latMapsUptoRow.holds Try.pinned (OpenSpec.upto latMapsSpec)

/-- 'partlaw.LatSays', WHERE WHAT IT READS IS OF BULK AT MOST 1048576: true; the input reads as it did. -/
def latSaysUptoRow : OpenClaim := { program := "ytjjhogleiolngaa", sum := "7ab5297cc4fbb5350a1f2c586d58cb25d5d4f4e3103baf24824b3a295e7be349", func := "partsong/partlaw.LatSays", spec := "latSays", apart := false, narrowed := true }
def LatSaysUptoSaid : Prop := latSaysUptoRow.holds Try.pinned (OpenSpec.upto latSaysSpec)

/-- 'partlaw.CutAll', WHERE WHAT IT READS IS OF BULK AT MOST 1048576: true; the input reads as it did. -/
def cutAllUptoRow : OpenClaim := { program := "ytjjhogleiolngaa", sum := "7ab5297cc4fbb5350a1f2c586d58cb25d5d4f4e3103baf24824b3a295e7be349", func := "partsong/partlaw.CutAll", spec := "cutAll", unfollowed := true, recurses := true, apart := false, narrowed := true }
def CutAllUptoSaid : Prop := cutAllUptoRow.holds Try.pinned (OpenSpec.upto cutAllSpec)

/-- 'partlaw.CutSays', WHERE WHAT IT READS IS OF BULK AT MOST 1048576: true; the input reads as it did. -/
def cutSaysUptoRow : OpenClaim := { program := "ytjjhogleiolngaa", sum := "7ab5297cc4fbb5350a1f2c586d58cb25d5d4f4e3103baf24824b3a295e7be349", func := "partsong/partlaw.CutSays", spec := "cutSays", apart := false, narrowed := true }
def CutSaysUptoSaid : Prop := cutSaysUptoRow.holds Try.pinned (OpenSpec.upto cutSaysSpec)

/-- 'parttop.TopCauses', WHERE WHAT IT READS IS OF BULK AT MOST 1048576: true; the input reads as it did. -/
def topCausesUptoRow : OpenClaim := { program := "ytjjhogleiolngaa", sum := "7ab5297cc4fbb5350a1f2c586d58cb25d5d4f4e3103baf24824b3a295e7be349", func := "partsong/parttop.TopCauses", spec := "topCauses", apart := false, narrowed := true }
def TopCausesUptoSaid : Prop := topCausesUptoRow.holds Try.pinned (OpenSpec.upto topCausesSpec)

/-- 'parttop.TopLattice', WHERE WHAT IT READS IS OF BULK AT MOST 1048576: true; the input reads as it did. -/
def topLatticeUptoRow : OpenClaim := { program := "ytjjhogleiolngaa", sum := "7ab5297cc4fbb5350a1f2c586d58cb25d5d4f4e3103baf24824b3a295e7be349", func := "partsong/parttop.TopLattice", spec := "topLattice", apart := false, narrowed := true }
def TopLatticeUptoSaid : Prop := topLatticeUptoRow.holds Try.pinned (OpenSpec.upto topLatticeSpec)

/-- 'partlaw.StampSays', WHERE WHAT IT READS IS OF BULK AT MOST 1048576: true; the input reads as it did. -/
def stampSaysUptoRow : OpenClaim := { program := "ytjjhogleiolngaa", sum := "7ab5297cc4fbb5350a1f2c586d58cb25d5d4f4e3103baf24824b3a295e7be349", func := "partsong/partlaw.StampSays", spec := "stampSays", unfollowed := true, recurses := true, apart := false, narrowed := true }
def StampSaysUptoSaid : Prop := stampSaysUptoRow.holds Try.pinned (OpenSpec.upto stampSaysSpec)

/-- 'partlaw.OverSays', WHERE WHAT IT READS IS OF BULK AT MOST 1048576: true; the input reads as it did. -/
def overSaysUptoRow : OpenClaim := { program := "ytjjhogleiolngaa", sum := "7ab5297cc4fbb5350a1f2c586d58cb25d5d4f4e3103baf24824b3a295e7be349", func := "partsong/partlaw.OverSays", spec := "overSays", apart := false, narrowed := true }
def OverSaysUptoSaid : Prop := overSaysUptoRow.holds Try.pinned (OpenSpec.upto overSaysSpec)

/-- 'partlaw.TurnSays', WHERE WHAT IT READS IS OF BULK AT MOST 1048576: true; the input reads as it did. -/
def turnSaysUptoRow : OpenClaim := { program := "ytjjhogleiolngaa", sum := "7ab5297cc4fbb5350a1f2c586d58cb25d5d4f4e3103baf24824b3a295e7be349", func := "partsong/partlaw.TurnSays", spec := "turnSays", unfollowed := true, recurses := true, apart := false, narrowed := true }
def TurnSaysUptoSaid : Prop := turnSaysUptoRow.holds Try.pinned (OpenSpec.upto turnSaysSpec)

/-- 'partlaw.FlushSays', WHERE WHAT IT READS IS OF BULK AT MOST 1048576: true; the input reads as it did. -/
def flushSaysUptoRow : OpenClaim := { program := "ytjjhogleiolngaa", sum := "7ab5297cc4fbb5350a1f2c586d58cb25d5d4f4e3103baf24824b3a295e7be349", func := "partsong/partlaw.FlushSays", spec := "flushSays", unfollowed := true, recurses := true, apart := false, narrowed := true }
def FlushSaysUptoSaid : Prop := flushSaysUptoRow.holds Try.pinned (OpenSpec.upto flushSaysSpec)

end Rows
end Go.Proofs.Ytjjhogleiolngaa
