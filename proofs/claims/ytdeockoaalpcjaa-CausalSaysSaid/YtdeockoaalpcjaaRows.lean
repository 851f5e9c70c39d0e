/-
  No cell of these rows narrows 'for every input' (looked for: loops, veiled, ifaces, maps, wideKeys, modest, calm, conditions, laid).
  DERIVED. THE GIVEN ROWS OF THIS SEAT. 12 by the template 'for every input the law returns true; each argument reads behind the call as it read before'; 0 by the template 'total and deterministic' (their statements: YtdeockoaalpcjaaTotals.lean).
  GIVEN WITH THE SEED: the statements are not yours to turn. If you find one false, say at which input.
  Laid BY PROGRAM, IN A SANDBOX (cutbox-rows.mjs): the forced cells as the released guide's own fill.sh prints them over the translation d7122d85c73e8d3a… (all of the seat's roots in one cut). By AI agents, Wed Nov 11 2026. No macro, syntax, notation, axiom, sorry.
-/
import Derived.Test.YtdeockoaalpcjaaChecked
import GoSem.Claim
import GoSem.ClaimJoined
import GoSem.ClaimMapViews
import Derived.JoinedTies
import Derived.KernelRfl
namespace Go.Proofs.Ytdeockoaalpcjaa
/- THE CELL 'sum', in the pinned program and in every row, IS THE sha256 OF THE DUMP (.gsa) THAT YtdeockoaalpcjaaProg.lean LOADS. Nothing in Lean hashes anything: it is a label: what it is worth is what the hold of that sum in a sandbox is worth. -/
noncomputable def Try.pinned : Pinned := { name := "ytdeockoaalpcjaa", sum := "d7122d85c73e8d3a02776074d97da9dc46f6de44017ab9da17479b879f554068", checked := Try.checked }
namespace Rows
def none {H : Type} : Left H := { results := [], args := [] }

/-- 'partlaw.Names': WHATEVER THE INPUT: true; the input reads as it did. -/
def namesSpec : ChangeSpec := { name := "names", fn := fun _ => fun
  | [] => { results := [.lit (.bool true)], args := [] }
  | _ => none }
def namesRow : OpenClaim := { program := "ytdeockoaalpcjaa", sum := "d7122d85c73e8d3a02776074d97da9dc46f6de44017ab9da17479b879f554068", func := "partsong/partlaw.Names", spec := "names", apart := false }
def NamesSaid : Prop := namesRow.holds Try.pinned (OpenSpec.ofChange namesSpec)

/-- ITS FALSE NEIGHBOUR: 'it returns false'. Refute it at one input. -/
def namesWrong : ChangeSpec := { name := "names", fn := fun _ => fun
  | [] => { results := [.lit (.bool false)], args := [] }
  | _ => none }
def NamesWrongFalsely : Prop := namesRow.holds Try.pinned (OpenSpec.ofChange namesWrong)

/-- 'partlaw.ViewSays': WHATEVER THE INPUT: true; the input reads as it did. -/
def viewSaysSpec : ChangeSpec := { name := "viewSays", fn := fun _ => fun
  | [d1, d2, d3, d4] => { results := [.lit (.bool true)], args := [d1, d2, d3, d4] }
  | _ => none }
def viewSaysRow : OpenClaim := { program := "ytdeockoaalpcjaa", sum := "d7122d85c73e8d3a02776074d97da9dc46f6de44017ab9da17479b879f554068", func := "partsong/partlaw.ViewSays", spec := "viewSays", apart := false }
def ViewSaysSaid : Prop := viewSaysRow.holds Try.pinned (OpenSpec.ofChange viewSaysSpec)

/-- ITS FALSE NEIGHBOUR: 'it returns false'. Refute it at one input. -/
def viewSaysWrong : ChangeSpec := { name := "viewSays", fn := fun _ => fun
  | [d1, d2, d3, d4] => { results := [.lit (.bool false)], args := [d1, d2, d3, d4] }
  | _ => none }
def ViewSaysWrongFalsely : Prop := viewSaysRow.holds Try.pinned (OpenSpec.ofChange viewSaysWrong)

/-- 'partlaw.MatSays': WHATEVER THE INPUT: true; the input reads as it did. -/
def matSaysSpec : ChangeSpec := { name := "matSays", fn := fun _ => fun
  | [d1, d2, d3, d4] => { results := [.lit (.bool true)], args := [d1, d2, d3, d4] }
  | _ => none }
def matSaysRow : OpenClaim := { program := "ytdeockoaalpcjaa", sum := "d7122d85c73e8d3a02776074d97da9dc46f6de44017ab9da17479b879f554068", func := "partsong/partlaw.MatSays", spec := "matSays", apart := false }
def MatSaysSaid : Prop := matSaysRow.holds Try.pinned (OpenSpec.ofChange matSaysSpec)

/-- ITS FALSE NEIGHBOUR: 'it returns false'. Refute it at one input. -/
def matSaysWrong : ChangeSpec := { name := "matSays", fn := fun _ => fun
  | [d1, d2, d3, d4] => { results := [.lit (.bool false)], args := [d1, d2, d3, d4] }
  | _ => none }
def MatSaysWrongFalsely : Prop := matSaysRow.holds Try.pinned (OpenSpec.ofChange matSaysWrong)

/-- 'partlaw.RingSays': WHATEVER THE INPUT: true; the input reads as it did. -/
def ringSaysSpec : ChangeSpec := { name := "ringSays", fn := fun _ => fun
  | [d] => { results := [.lit (.bool true)], args := [d] }
  | _ => none }
def ringSaysRow : OpenClaim := { program := "ytdeockoaalpcjaa", sum := "d7122d85c73e8d3a02776074d97da9dc46f6de44017ab9da17479b879f554068", func := "partsong/partlaw.RingSays", spec := "ringSays", apart := false }
def RingSaysSaid : Prop := ringSaysRow.holds Try.pinned (OpenSpec.ofChange ringSaysSpec)

/-- ITS FALSE NEIGHBOUR: 'it returns false'. Refute it at one input. -/
def ringSaysWrong : ChangeSpec := { name := "ringSays", fn := fun _ => fun
  | [d] => { results := [.lit (.bool false)], args := [d] }
  | _ => none }
def RingSaysWrongFalsely : Prop := ringSaysRow.holds Try.pinned (OpenSpec.ofChange ringSaysWrong)

/-- 'partlaw.PulseSays': WHATEVER THE INPUT: true; the input reads as it did. -/
def pulseSaysSpec : ChangeSpec := { name := "pulseSays", fn := fun _ => fun
  | [d1, d2, d3, d4] => { results := [.lit (.bool true)], args := [d1, d2, d3, d4] }
  | _ => none }
def pulseSaysRow : OpenClaim := { program := "ytdeockoaalpcjaa", sum := "d7122d85c73e8d3a02776074d97da9dc46f6de44017ab9da17479b879f554068", func := "partsong/partlaw.PulseSays", spec := "pulseSays", apart := false }
def PulseSaysSaid : Prop := pulseSaysRow.holds Try.pinned (OpenSpec.ofChange pulseSaysSpec)

/-- ITS FALSE NEIGHBOUR: 'it returns false'. Refute it at one input. -/
def pulseSaysWrong : ChangeSpec := { name := "pulseSays", fn := fun _ => fun
  | [d1, d2, d3, d4] => { results := [.lit (.bool false)], args := [d1, d2, d3, d4] }
  | _ => none }
def PulseSaysWrongFalsely : Prop := pulseSaysRow.holds Try.pinned (OpenSpec.ofChange pulseSaysWrong)

/-- 'partlaw.WireSays': WHATEVER THE INPUT: true; the input reads as it did. -/
def wireSaysSpec : ChangeSpec := { name := "wireSays", fn := fun _ => fun
  | [d1, d2] => { results := [.lit (.bool true)], args := [d1, d2] }
  | _ => none }
def wireSaysRow : OpenClaim := { program := "ytdeockoaalpcjaa", sum := "d7122d85c73e8d3a02776074d97da9dc46f6de44017ab9da17479b879f554068", func := "partsong/partlaw.WireSays", spec := "wireSays", unfollowed := true, recurses := true, apart := false }
def WireSaysSaid : Prop := wireSaysRow.holds Try.pinned (OpenSpec.ofChange wireSaysSpec)

/-- ITS FALSE NEIGHBOUR: 'it returns false'. Refute it at one input. -/
def wireSaysWrong : ChangeSpec := { name := "wireSays", fn := fun _ => fun
  | [d1, d2] => { results := [.lit (.bool false)], args := [d1, d2] }
  | _ => none }
def WireSaysWrongFalsely : Prop := wireSaysRow.holds Try.pinned (OpenSpec.ofChange wireSaysWrong)

/-- 'partlaw.CausalSays': WHATEVER THE INPUT: true; the input reads as it did. -/
def causalSaysSpec : ChangeSpec := { name := "causalSays", fn := fun _ => fun
  | [d1, d2, d3] => { results := [.lit (.bool true)], args := [d1, d2, d3] }
  | _ => none }
def causalSaysRow : OpenClaim := { program := "ytdeockoaalpcjaa", sum := "d7122d85c73e8d3a02776074d97da9dc46f6de44017ab9da17479b879f554068", func := "partsong/partlaw.CausalSays", spec := "causalSays", unfollowed := true, recurses := true, apart := false }
def CausalSaysSaid : Prop := causalSaysRow.holds Try.pinned (OpenSpec.ofChange causalSaysSpec)

/-- ITS FALSE NEIGHBOUR: 'it returns false'. Refute it at one input. -/
def causalSaysWrong : ChangeSpec := { name := "causalSays", fn := fun _ => fun
  | [d1, d2, d3] => { results := [.lit (.bool false)], args := [d1, d2, d3] }
  | _ => none }
def CausalSaysWrongFalsely : Prop := causalSaysRow.holds Try.pinned (OpenSpec.ofChange causalSaysWrong)

/-- 'partlaw.TurnSays': WHATEVER THE INPUT: true; the input reads as it did. -/
def turnSaysSpec : ChangeSpec := { name := "turnSays", fn := fun _ => fun
  | [d1, d2] => { results := [.lit (.bool true)], args := [d1, d2] }
  | _ => none }
def turnSaysRow : OpenClaim := { program := "ytdeockoaalpcjaa", sum := "d7122d85c73e8d3a02776074d97da9dc46f6de44017ab9da17479b879f554068", func := "partsong/partlaw.TurnSays", spec := "turnSays", unfollowed := true, recurses := true, apart := false }
def TurnSaysSaid : Prop := turnSaysRow.holds Try.pinned (OpenSpec.ofChange turnSaysSpec)

/-- ITS FALSE NEIGHBOUR: 'it returns false'. Refute it at one input. -/
def turnSaysWrong : ChangeSpec := { name := "turnSays", fn := fun _ => fun
  | [d1, d2] => { results := [.lit (.bool false)], args := [d1, d2] }
  | _ => none }
def TurnSaysWrongFalsely : Prop := turnSaysRow.holds Try.pinned (OpenSpec.ofChange turnSaysWrong)

/-- 'partlaw.FlushSays': WHATEVER THE INPUT: true; the input reads as it did. -/
def flushSaysSpec : ChangeSpec := { name := "flushSays", fn := fun _ => fun
  | [d1, d2, d3, d4, d5] => { results := [.lit (.bool true)], args := [d1, d2, d3, d4, d5] }
  | _ => none }
def flushSaysRow : OpenClaim := { program := "ytdeockoaalpcjaa", sum := "d7122d85c73e8d3a02776074d97da9dc46f6de44017ab9da17479b879f554068", func := "partsong/partlaw.FlushSays", spec := "flushSays", unfollowed := true, recurses := true, apart := false }
def FlushSaysSaid : Prop := flushSaysRow.holds Try.pinned (OpenSpec.ofChange flushSaysSpec)

/-- ITS FALSE NEIGHBOUR: 'it returns false'. Refute it at one input. -/
def flushSaysWrong : ChangeSpec := { name := "flushSays", fn := fun _ => fun
  | [d1, d2, d3, d4, d5] => { results := [.lit (.bool false)], args := [d1, d2, d3, d4, d5] }
  | _ => none }
def FlushSaysWrongFalsely : Prop := flushSaysRow.holds Try.pinned (OpenSpec.ofChange flushSaysWrong)

/-- 'partlaw.LaneTakes': WHATEVER THE INPUT: true; the input reads as it did. -/
def laneTakesSpec : ChangeSpec := { name := "laneTakes", fn := fun _ => fun
  | [d1, d2] => { results := [.lit (.bool true)], args := [d1, d2] }
  | _ => none }
def laneTakesRow : OpenClaim := { program := "ytdeockoaalpcjaa", sum := "d7122d85c73e8d3a02776074d97da9dc46f6de44017ab9da17479b879f554068", func := "partsong/partlaw.LaneTakes", spec := "laneTakes", inPlace := ["slices.overlaps[partsong/api.Parcel]"], unfollowed := true, recurses := true, apart := false }
def LaneTakesSaid : Prop := laneTakesRow.holds Try.pinned (OpenSpec.ofChange laneTakesSpec)

/-- ITS FALSE NEIGHBOUR: 'it returns false'. Refute it at one input. -/
def laneTakesWrong : ChangeSpec := { name := "laneTakes", fn := fun _ => fun
  | [d1, d2] => { results := [.lit (.bool false)], args := [d1, d2] }
  | _ => none }
def LaneTakesWrongFalsely : Prop := laneTakesRow.holds Try.pinned (OpenSpec.ofChange laneTakesWrong)

/-- 'partlaw.SkeenSays': WHATEVER THE INPUT: true; the input reads as it did. -/
def skeenSaysSpec : ChangeSpec := { name := "skeenSays", fn := fun _ => fun
  | [d1, d2, d3, d4] => { results := [.lit (.bool true)], args := [d1, d2, d3, d4] }
  | _ => none }
def skeenSaysRow : OpenClaim := { program := "ytdeockoaalpcjaa", sum := "d7122d85c73e8d3a02776074d97da9dc46f6de44017ab9da17479b879f554068", func := "partsong/partlaw.SkeenSays", spec := "skeenSays", unfollowed := true, recurses := true, apart := false }
def SkeenSaysSaid : Prop := skeenSaysRow.holds Try.pinned (OpenSpec.ofChange skeenSaysSpec)

/-- ITS FALSE NEIGHBOUR: 'it returns false'. Refute it at one input. -/
def skeenSaysWrong : ChangeSpec := { name := "skeenSays", fn := fun _ => fun
  | [d1, d2, d3, d4] => { results := [.lit (.bool false)], args := [d1, d2, d3, d4] }
  | _ => none }
def SkeenSaysWrongFalsely : Prop := skeenSaysRow.holds Try.pinned (OpenSpec.ofChange skeenSaysWrong)

/-- 'partlaw.SynodSays': WHATEVER THE INPUT: true; the input reads as it did. -/
def synodSaysSpec : ChangeSpec := { name := "synodSays", fn := fun _ => fun
  | [d1, d2] => { results := [.lit (.bool true)], args := [d1, d2] }
  | _ => none }
def synodSaysRow : OpenClaim := { program := "ytdeockoaalpcjaa", sum := "d7122d85c73e8d3a02776074d97da9dc46f6de44017ab9da17479b879f554068", func := "partsong/partlaw.SynodSays", spec := "synodSays", unfollowed := true, recurses := true, apart := false }
def SynodSaysSaid : Prop := synodSaysRow.holds Try.pinned (OpenSpec.ofChange synodSaysSpec)

/-- ITS FALSE NEIGHBOUR: 'it returns false'. Refute it at one input. -/
def synodSaysWrong : ChangeSpec := { name := "synodSays", fn := fun _ => fun
  | [d1, d2] => { results := [.lit (.bool false)], args := [d1, d2] }
  | _ => none }
def SynodSaysWrongFalsely : Prop := synodSaysRow.holds Try.pinned (OpenSpec.ofChange synodSaysWrong)

/- THE SECOND FORM. 'bulk': how many values and letters a reading holds, each counted each time it is reached (what is shared counts as often as it is met; a slice's spare places count too). A statement '..UptoSaid' is the law's where the arguments, and the package variables that the reading takes, are together of bulk at most 1048576: NARROWER than '..Said'. Prove '..Said' where nothing that the law and all that it calls make is longer than what came in: it says more and counts as full. Else prove '..UptoSaid'. A law counts once. -/
mutual
def uptoBulk {H : Type} : DataW H → Nat
  | .lit (.string bytes) => bytes.length + 1
  | .lit _ => 1
  | .nil => 1
  | .ptr d => uptoBulk d + 1
  | .slice elems spare => uptoBulkAll elems + uptoBulkAll spare + 1
  | .agg parts => uptoBulkAll parts + 1
  | .iface _ d => uptoBulk d + 1
  | .map entries => uptoBulkEntries entries + 1
  | .held _ => 1
def uptoBulkAll {H : Type} : List (DataW H) → Nat
  | [] => 0
  | d :: r => uptoBulk d + uptoBulkAll r
def uptoBulkEntries {H : Type} : List (Lit × DataW H) → Nat
  | [] => 0
  | x :: r => uptoBulkEntry x + uptoBulkEntries r
def uptoBulkEntry {H : Type} : Lit × DataW H → Nat
  | (.string bytes, d) => bytes.length + uptoBulk d + 1
  | (_, d) => uptoBulk d + 1
 end
def uptoSmall : (H : Type) → List (DataW H) → Bool := fun _ ds => decide (uptoBulkAll ds ≤ 1048576)
def OpenSpec.upto (s : _root_.Go.ChangeSpec) : _root_.Go.OpenSpec := { _root_.Go.OpenSpec.ofChange s with cond := some uptoSmall }

/-- 'partlaw.Names', WHERE WHAT IT READS IS OF BULK AT MOST 1048576: true; the input reads as it did. -/
def namesUptoRow : OpenClaim := { program := "ytdeockoaalpcjaa", sum := "d7122d85c73e8d3a02776074d97da9dc46f6de44017ab9da17479b879f554068", func := "partsong/partlaw.Names", spec := "names", apart := false, narrowed := true }
def NamesUptoSaid : Prop := namesUptoRow.holds Try.pinned (OpenSpec.upto namesSpec)

/-- 'partlaw.ViewSays', WHERE WHAT IT READS IS OF BULK AT MOST 1048576: true; the input reads as it did. -/
def viewSaysUptoRow : OpenClaim := { program := "ytdeockoaalpcjaa", sum := "d7122d85c73e8d3a02776074d97da9dc46f6de44017ab9da17479b879f554068", func := "partsong/partlaw.ViewSays", spec := "viewSays", apart := false, narrowed := true }
def ViewSaysUptoSaid : Prop := viewSaysUptoRow.holds Try.pinned (OpenSpec.upto viewSaysSpec)

/-- 'partlaw.MatSays', WHERE WHAT IT READS IS OF BULK AT MOST 1048576: true; the input reads as it did. -/
def matSaysUptoRow : OpenClaim := { program := "ytdeockoaalpcjaa", sum := "d7122d85c73e8d3a02776074d97da9dc46f6de44017ab9da17479b879f554068", func := "partsong/partlaw.MatSays", spec := "matSays", apart := false, narrowed := true }
def MatSaysUptoSaid : Prop := matSaysUptoRow.holds Try.pinned (OpenSpec.upto matSaysSpec)

/-- 'partlaw.RingSays', WHERE WHAT IT READS IS OF BULK AT MOST 1048576: true; the input reads as it did. -/
def ringSaysUptoRow : OpenClaim := { program := "ytdeockoaalpcjaa", sum := "d7122d85c73e8d3a02776074d97da9dc46f6de44017ab9da17479b879f554068", func := "partsong/partlaw.RingSays", spec := "ringSays", apart := false, narrowed := true }
def RingSaysUptoSaid : Prop := ringSaysUptoRow.holds Try.pinned (OpenSpec.upto ringSaysSpec)

/-- 'partlaw.PulseSays', WHERE WHAT IT READS IS OF BULK AT MOST 1048576: true; the input reads as it did. -/
def pulseSaysUptoRow : OpenClaim := { program := "ytdeockoaalpcjaa", sum := "d7122d85c73e8d3a02776074d97da9dc46f6de44017ab9da17479b879f554068", func := "partsong/partlaw.PulseSays", spec := "pulseSays", apart := false, narrowed := true }
def PulseSaysUptoSaid : Prop := pulseSaysUptoRow.holds Try.pinned (OpenSpec.upto pulseSaysSpec)

/-- 'partlaw.WireSays', WHERE WHAT IT READS IS OF BULK AT MOST 1048576: true; the input reads as it did. -/
def wireSaysUptoRow : OpenClaim := { program := "ytdeockoaalpcjaa", sum := "d7122d85c73e8d3a02776074d97da9dc46f6de44017ab9da17479b879f554068", func := "partsong/partlaw.WireSays", spec := "wireSays", unfollowed := true, recurses := true, apart := false, narrowed := true }
def WireSaysUptoSaid : Prop := wireSaysUptoRow.holds Try.pinned (OpenSpec.upto wireSaysSpec)

/-- 'partlaw.CausalSays', WHERE WHAT IT READS IS OF BULK AT MOST 1048576: true; the input reads as it did. -/
def causalSaysUptoRow : OpenClaim := { program := "ytdeockoaalpcjaa", sum := "d7122d85c73e8d3a02776074d97da9dc46f6de44017ab9da17479b879f554068", func := "partsong/partlaw.CausalSays", spec := "causalSays", unfollowed := true, recurses := true, apart := false, narrowed := true }
def CausalSaysUptoSaid : Prop := causalSaysUptoRow.holds Try.pinned (OpenSpec.upto causalSaysSpec)

/-- 'partlaw.TurnSays', WHERE WHAT IT READS IS OF BULK AT MOST 1048576: true; the input reads as it did. -/
def turnSaysUptoRow : OpenClaim := { program := "ytdeockoaalpcjaa", sum := "d7122d85c73e8d3a02776074d97da9dc46f6de44017ab9da17479b879f554068", func := "partsong/partlaw.TurnSays", spec := "turnSays", unfollowed := true, recurses := true, apart := false, narrowed := true }
def TurnSaysUptoSaid : Prop := turnSaysUptoRow.holds Try.pinned (OpenSpec.upto turnSaysSpec)

/-- 'partlaw.FlushSays', WHERE WHAT IT READS IS OF BULK AT MOST 1048576: true; the input reads as it did. -/
def flushSaysUptoRow : OpenClaim := { program := "ytdeockoaalpcjaa", sum := "d7122d85c73e8d3a02776074d97da9dc46f6de44017ab9da17479b879f554068", func := "partsong/partlaw.FlushSays", spec := "flushSays", unfollowed := true, recurses := true, apart := false, narrowed := true }
def FlushSaysUptoSaid : Prop := flushSaysUptoRow.holds Try.pinned (OpenSpec.upto flushSaysSpec)

/-- 'partlaw.LaneTakes', WHERE WHAT IT READS IS OF BULK AT MOST 1048576: true; the input reads as it did. -/
def laneTakesUptoRow : OpenClaim := { program := "ytdeockoaalpcjaa", sum := "d7122d85c73e8d3a02776074d97da9dc46f6de44017ab9da17479b879f554068", func := "partsong/partlaw.LaneTakes", spec := "laneTakes", inPlace := ["slices.overlaps[partsong/api.Parcel]"], unfollowed := true, recurses := true, apart := false, narrowed := true }
def LaneTakesUptoSaid : Prop := laneTakesUptoRow.holds Try.pinned (OpenSpec.upto laneTakesSpec)

/-- 'partlaw.SkeenSays', WHERE WHAT IT READS IS OF BULK AT MOST 1048576: true; the input reads as it did. -/
def skeenSaysUptoRow : OpenClaim := { program := "ytdeockoaalpcjaa", sum := "d7122d85c73e8d3a02776074d97da9dc46f6de44017ab9da17479b879f554068", func := "partsong/partlaw.SkeenSays", spec := "skeenSays", unfollowed := true, recurses := true, apart := false, narrowed := true }
def SkeenSaysUptoSaid : Prop := skeenSaysUptoRow.holds Try.pinned (OpenSpec.upto skeenSaysSpec)

/-- 'partlaw.SynodSays', WHERE WHAT IT READS IS OF BULK AT MOST 1048576: true; the input reads as it did. -/
def synodSaysUptoRow : OpenClaim := { program := "ytdeockoaalpcjaa", sum := "d7122d85c73e8d3a02776074d97da9dc46f6de44017ab9da17479b879f554068", func := "partsong/partlaw.SynodSays", spec := "synodSays", unfollowed := true, recurses := true, apart := false, narrowed := true }
def SynodSaysUptoSaid : Prop := synodSaysUptoRow.holds Try.pinned (OpenSpec.upto synodSaysSpec)

end Rows
end Go.Proofs.Ytdeockoaalpcjaa
