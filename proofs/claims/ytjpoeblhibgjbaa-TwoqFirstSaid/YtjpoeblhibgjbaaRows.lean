/-
  No cell of these rows narrows 'for every input' (looked for: loops, veiled, ifaces, maps, wideKeys, modest, calm, conditions, laid).
  DERIVED. THE GIVEN ROWS OF THIS SEAT. 12 by the template 'for every input the law returns true; each argument reads behind the call as it read before'; 0 by the template 'total and deterministic' (their statements: YtjpoeblhibgjbaaTotals.lean).
  GIVEN WITH THE SEED: the statements are not yours to turn. If you find one false, say at which input.
  Laid BY PROGRAM, IN A SANDBOX (cutbox-rows.mjs): the forced cells as the released guide's own fill.sh prints them over the translation 298e9a7c0286aae8… (all of the seat's roots in one cut). By AI agents, Wed Nov 11 2026. No macro, syntax, notation, axiom, sorry.
-/
import Derived.Test.YtjpoeblhibgjbaaChecked
import GoSem.Claim
import GoSem.ClaimJoined
import GoSem.ClaimMapViews
import Derived.JoinedTies
import Derived.KernelRfl
namespace Go.Proofs.Ytjpoeblhibgjbaa
/- THE CELL 'sum', in the pinned program and in every row, IS THE sha256 OF THE DUMP (.gsa) THAT YtjpoeblhibgjbaaProg.lean LOADS. Nothing in Lean hashes anything: it is a label: what it is worth is what the hold of that sum in a sandbox is worth. -/
noncomputable def Try.pinned : Pinned := { name := "ytjpoeblhibgjbaa", sum := "298e9a7c0286aae8b1b804e2d4cca5215d64c4023dce80f828a08fa8e3e78042", checked := Try.checked }
namespace Rows
def none {H : Type} : Left H := { results := [], args := [] }

/-- 'hoardlaw11.TwoqFirst': WHATEVER THE INPUT: true; the input reads as it did. -/
def twoqFirstSpec : ChangeSpec := { name := "twoqFirst", fn := fun _ => fun
  | [d1, d2] => { results := [.lit (.bool true)], args := [d1, d2] }
  | _ => none }
def twoqFirstRow : OpenClaim := { program := "ytjpoeblhibgjbaa", sum := "298e9a7c0286aae8b1b804e2d4cca5215d64c4023dce80f828a08fa8e3e78042", func := "hoard/hoardlaw11.TwoqFirst", spec := "twoqFirst", inPlace := ["internal/abi.NoEscape", "internal/bytealg.MakeNoZero"], apart := false }
def TwoqFirstSaid : Prop := twoqFirstRow.holds Try.pinned (OpenSpec.ofChange twoqFirstSpec)

/-- ITS FALSE NEIGHBOUR: 'it returns false'. Refute it at one input. -/
def twoqFirstWrong : ChangeSpec := { name := "twoqFirst", fn := fun _ => fun
  | [d1, d2] => { results := [.lit (.bool false)], args := [d1, d2] }
  | _ => none }
def TwoqFirstWrongFalsely : Prop := twoqFirstRow.holds Try.pinned (OpenSpec.ofChange twoqFirstWrong)

/-- 'hoardlaw11.TwoqFits': WHATEVER THE INPUT: true; the input reads as it did. -/
def twoqFitsSpec : ChangeSpec := { name := "twoqFits", fn := fun _ => fun
  | [d1, d2] => { results := [.lit (.bool true)], args := [d1, d2] }
  | _ => none }
def twoqFitsRow : OpenClaim := { program := "ytjpoeblhibgjbaa", sum := "298e9a7c0286aae8b1b804e2d4cca5215d64c4023dce80f828a08fa8e3e78042", func := "hoard/hoardlaw11.TwoqFits", spec := "twoqFits", inPlace := ["internal/abi.NoEscape", "internal/bytealg.MakeNoZero"], apart := false }
def TwoqFitsSaid : Prop := twoqFitsRow.holds Try.pinned (OpenSpec.ofChange twoqFitsSpec)

/-- ITS FALSE NEIGHBOUR: 'it returns false'. Refute it at one input. -/
def twoqFitsWrong : ChangeSpec := { name := "twoqFits", fn := fun _ => fun
  | [d1, d2] => { results := [.lit (.bool false)], args := [d1, d2] }
  | _ => none }
def TwoqFitsWrongFalsely : Prop := twoqFitsRow.holds Try.pinned (OpenSpec.ofChange twoqFitsWrong)

/-- 'hoardlaw11.TwoqCounts': WHATEVER THE INPUT: true; the input reads as it did. -/
def twoqCountsSpec : ChangeSpec := { name := "twoqCounts", fn := fun _ => fun
  | [d1, d2] => { results := [.lit (.bool true)], args := [d1, d2] }
  | _ => none }
def twoqCountsRow : OpenClaim := { program := "ytjpoeblhibgjbaa", sum := "298e9a7c0286aae8b1b804e2d4cca5215d64c4023dce80f828a08fa8e3e78042", func := "hoard/hoardlaw11.TwoqCounts", spec := "twoqCounts", inPlace := ["internal/abi.NoEscape", "internal/bytealg.MakeNoZero"], apart := false }
def TwoqCountsSaid : Prop := twoqCountsRow.holds Try.pinned (OpenSpec.ofChange twoqCountsSpec)

/-- ITS FALSE NEIGHBOUR: 'it returns false'. Refute it at one input. -/
def twoqCountsWrong : ChangeSpec := { name := "twoqCounts", fn := fun _ => fun
  | [d1, d2] => { results := [.lit (.bool false)], args := [d1, d2] }
  | _ => none }
def TwoqCountsWrongFalsely : Prop := twoqCountsRow.holds Try.pinned (OpenSpec.ofChange twoqCountsWrong)

/-- 'hoardlaw11.TwoqOne': WHATEVER THE INPUT: true; the input reads as it did. -/
def twoqOneSpec : ChangeSpec := { name := "twoqOne", fn := fun _ => fun
  | [d] => { results := [.lit (.bool true)], args := [d] }
  | _ => none }
def twoqOneRow : OpenClaim := { program := "ytjpoeblhibgjbaa", sum := "298e9a7c0286aae8b1b804e2d4cca5215d64c4023dce80f828a08fa8e3e78042", func := "hoard/hoardlaw11.TwoqOne", spec := "twoqOne", inPlace := ["internal/abi.NoEscape", "internal/bytealg.MakeNoZero"], apart := false }
def TwoqOneSaid : Prop := twoqOneRow.holds Try.pinned (OpenSpec.ofChange twoqOneSpec)

/-- ITS FALSE NEIGHBOUR: 'it returns false'. Refute it at one input. -/
def twoqOneWrong : ChangeSpec := { name := "twoqOne", fn := fun _ => fun
  | [d] => { results := [.lit (.bool false)], args := [d] }
  | _ => none }
def TwoqOneWrongFalsely : Prop := twoqOneRow.holds Try.pinned (OpenSpec.ofChange twoqOneWrong)

/-- 'hoardlaw11.TwoqTold': WHATEVER THE INPUT: true; the input reads as it did. -/
def twoqToldSpec : ChangeSpec := { name := "twoqTold", fn := fun _ => fun
  | [d1, d2] => { results := [.lit (.bool true)], args := [d1, d2] }
  | _ => none }
def twoqToldRow : OpenClaim := { program := "ytjpoeblhibgjbaa", sum := "298e9a7c0286aae8b1b804e2d4cca5215d64c4023dce80f828a08fa8e3e78042", func := "hoard/hoardlaw11.TwoqTold", spec := "twoqTold", inPlace := ["internal/abi.NoEscape", "internal/bytealg.MakeNoZero"], apart := false }
def TwoqToldSaid : Prop := twoqToldRow.holds Try.pinned (OpenSpec.ofChange twoqToldSpec)

/-- ITS FALSE NEIGHBOUR: 'it returns false'. Refute it at one input. -/
def twoqToldWrong : ChangeSpec := { name := "twoqTold", fn := fun _ => fun
  | [d1, d2] => { results := [.lit (.bool false)], args := [d1, d2] }
  | _ => none }
def TwoqToldWrongFalsely : Prop := twoqToldRow.holds Try.pinned (OpenSpec.ofChange twoqToldWrong)

/-- 'hoardlaw11.TwoqEmpties': WHATEVER THE INPUT: true; the input reads as it did. -/
def twoqEmptiesSpec : ChangeSpec := { name := "twoqEmpties", fn := fun _ => fun
  | [d1, d2] => { results := [.lit (.bool true)], args := [d1, d2] }
  | _ => none }
def twoqEmptiesRow : OpenClaim := { program := "ytjpoeblhibgjbaa", sum := "298e9a7c0286aae8b1b804e2d4cca5215d64c4023dce80f828a08fa8e3e78042", func := "hoard/hoardlaw11.TwoqEmpties", spec := "twoqEmpties", inPlace := ["internal/abi.NoEscape", "internal/bytealg.MakeNoZero"], apart := false }
def TwoqEmptiesSaid : Prop := twoqEmptiesRow.holds Try.pinned (OpenSpec.ofChange twoqEmptiesSpec)

/-- ITS FALSE NEIGHBOUR: 'it returns false'. Refute it at one input. -/
def twoqEmptiesWrong : ChangeSpec := { name := "twoqEmpties", fn := fun _ => fun
  | [d1, d2] => { results := [.lit (.bool false)], args := [d1, d2] }
  | _ => none }
def TwoqEmptiesWrongFalsely : Prop := twoqEmptiesRow.holds Try.pinned (OpenSpec.ofChange twoqEmptiesWrong)

/-- 'hoardlaw11.TwoqLoads': WHATEVER THE INPUT: true; the input reads as it did. -/
def twoqLoadsSpec : ChangeSpec := { name := "twoqLoads", fn := fun _ => fun
  | [d1, d2, d3] => { results := [.lit (.bool true)], args := [d1, d2, d3] }
  | _ => none }
def twoqLoadsRow : OpenClaim := { program := "ytjpoeblhibgjbaa", sum := "298e9a7c0286aae8b1b804e2d4cca5215d64c4023dce80f828a08fa8e3e78042", func := "hoard/hoardlaw11.TwoqLoads", spec := "twoqLoads", inPlace := ["internal/abi.NoEscape", "internal/bytealg.MakeNoZero"], apart := false }
def TwoqLoadsSaid : Prop := twoqLoadsRow.holds Try.pinned (OpenSpec.ofChange twoqLoadsSpec)

/-- ITS FALSE NEIGHBOUR: 'it returns false'. Refute it at one input. -/
def twoqLoadsWrong : ChangeSpec := { name := "twoqLoads", fn := fun _ => fun
  | [d1, d2, d3] => { results := [.lit (.bool false)], args := [d1, d2, d3] }
  | _ => none }
def TwoqLoadsWrongFalsely : Prop := twoqLoadsRow.holds Try.pinned (OpenSpec.ofChange twoqLoadsWrong)

/-- 'hoardlaw11.TwoqRemoves': WHATEVER THE INPUT: true; the input reads as it did. -/
def twoqRemovesSpec : ChangeSpec := { name := "twoqRemoves", fn := fun _ => fun
  | [d1, d2, d3] => { results := [.lit (.bool true)], args := [d1, d2, d3] }
  | _ => none }
def twoqRemovesRow : OpenClaim := { program := "ytjpoeblhibgjbaa", sum := "298e9a7c0286aae8b1b804e2d4cca5215d64c4023dce80f828a08fa8e3e78042", func := "hoard/hoardlaw11.TwoqRemoves", spec := "twoqRemoves", inPlace := ["internal/abi.NoEscape", "internal/bytealg.MakeNoZero"], apart := false }
def TwoqRemovesSaid : Prop := twoqRemovesRow.holds Try.pinned (OpenSpec.ofChange twoqRemovesSpec)

/-- ITS FALSE NEIGHBOUR: 'it returns false'. Refute it at one input. -/
def twoqRemovesWrong : ChangeSpec := { name := "twoqRemoves", fn := fun _ => fun
  | [d1, d2, d3] => { results := [.lit (.bool false)], args := [d1, d2, d3] }
  | _ => none }
def TwoqRemovesWrongFalsely : Prop := twoqRemovesRow.holds Try.pinned (OpenSpec.ofChange twoqRemovesWrong)

/-- 'hoardlaw11.TwoqOwn': WHATEVER THE INPUT: true; the input reads as it did. -/
def twoqOwnSpec : ChangeSpec := { name := "twoqOwn", fn := fun _ => fun
  | [d1, d2] => { results := [.lit (.bool true)], args := [d1, d2] }
  | _ => none }
def twoqOwnRow : OpenClaim := { program := "ytjpoeblhibgjbaa", sum := "298e9a7c0286aae8b1b804e2d4cca5215d64c4023dce80f828a08fa8e3e78042", func := "hoard/hoardlaw11.TwoqOwn", spec := "twoqOwn", inPlace := ["internal/abi.NoEscape", "internal/bytealg.MakeNoZero"], apart := false }
def TwoqOwnSaid : Prop := twoqOwnRow.holds Try.pinned (OpenSpec.ofChange twoqOwnSpec)

/-- ITS FALSE NEIGHBOUR: 'it returns false'. Refute it at one input. -/
def twoqOwnWrong : ChangeSpec := { name := "twoqOwn", fn := fun _ => fun
  | [d1, d2] => { results := [.lit (.bool false)], args := [d1, d2] }
  | _ => none }
def TwoqOwnWrongFalsely : Prop := twoqOwnRow.holds Try.pinned (OpenSpec.ofChange twoqOwnWrong)

/-- 'hoardlaw11.TwoqPlays': WHATEVER THE INPUT: true; the input reads as it did. -/
def twoqPlaysSpec : ChangeSpec := { name := "twoqPlays", fn := fun _ => fun
  | [d1, d2] => { results := [.lit (.bool true)], args := [d1, d2] }
  | _ => none }
def twoqPlaysRow : OpenClaim := { program := "ytjpoeblhibgjbaa", sum := "298e9a7c0286aae8b1b804e2d4cca5215d64c4023dce80f828a08fa8e3e78042", func := "hoard/hoardlaw11.TwoqPlays", spec := "twoqPlays", inPlace := ["internal/abi.NoEscape", "internal/bytealg.MakeNoZero"], apart := false }
def TwoqPlaysSaid : Prop := twoqPlaysRow.holds Try.pinned (OpenSpec.ofChange twoqPlaysSpec)

/-- ITS FALSE NEIGHBOUR: 'it returns false'. Refute it at one input. -/
def twoqPlaysWrong : ChangeSpec := { name := "twoqPlays", fn := fun _ => fun
  | [d1, d2] => { results := [.lit (.bool false)], args := [d1, d2] }
  | _ => none }
def TwoqPlaysWrongFalsely : Prop := twoqPlaysRow.holds Try.pinned (OpenSpec.ofChange twoqPlaysWrong)

/-- 'hoardlaw11.TwoqBounds': WHATEVER THE INPUT: true; the input reads as it did. -/
def twoqBoundsSpec : ChangeSpec := { name := "twoqBounds", fn := fun _ => fun
  | [d1, d2] => { results := [.lit (.bool true)], args := [d1, d2] }
  | _ => none }
def twoqBoundsRow : OpenClaim := { program := "ytjpoeblhibgjbaa", sum := "298e9a7c0286aae8b1b804e2d4cca5215d64c4023dce80f828a08fa8e3e78042", func := "hoard/hoardlaw11.TwoqBounds", spec := "twoqBounds", inPlace := ["internal/abi.NoEscape", "internal/bytealg.MakeNoZero"], apart := false }
def TwoqBoundsSaid : Prop := twoqBoundsRow.holds Try.pinned (OpenSpec.ofChange twoqBoundsSpec)

/-- ITS FALSE NEIGHBOUR: 'it returns false'. Refute it at one input. -/
def twoqBoundsWrong : ChangeSpec := { name := "twoqBounds", fn := fun _ => fun
  | [d1, d2] => { results := [.lit (.bool false)], args := [d1, d2] }
  | _ => none }
def TwoqBoundsWrongFalsely : Prop := twoqBoundsRow.holds Try.pinned (OpenSpec.ofChange twoqBoundsWrong)

/-- 'hoardlaw11.TwoqOfNothing': WHATEVER THE INPUT: true; the input reads as it did. -/
def twoqOfNothingSpec : ChangeSpec := { name := "twoqOfNothing", fn := fun _ => fun
  | [d] => { results := [.lit (.bool true)], args := [d] }
  | _ => none }
def twoqOfNothingRow : OpenClaim := { program := "ytjpoeblhibgjbaa", sum := "298e9a7c0286aae8b1b804e2d4cca5215d64c4023dce80f828a08fa8e3e78042", func := "hoard/hoardlaw11.TwoqOfNothing", spec := "twoqOfNothing", inPlace := ["internal/abi.NoEscape", "internal/bytealg.MakeNoZero"], apart := false }
def TwoqOfNothingSaid : Prop := twoqOfNothingRow.holds Try.pinned (OpenSpec.ofChange twoqOfNothingSpec)

/-- ITS FALSE NEIGHBOUR: 'it returns false'. Refute it at one input. -/
def twoqOfNothingWrong : ChangeSpec := { name := "twoqOfNothing", fn := fun _ => fun
  | [d] => { results := [.lit (.bool false)], args := [d] }
  | _ => none }
def TwoqOfNothingWrongFalsely : Prop := twoqOfNothingRow.holds Try.pinned (OpenSpec.ofChange twoqOfNothingWrong)

/- THE SECOND FORM. 'bulk': how many values and letters a reading holds, each counted each time it is reached (what is shared counts as often as it is met; a slice's spare places count too). A statement '..UptoSaid' is the law's where the arguments, and the package variables that the reading takes, are together of bulk at most 1048576: NARROWER than '..Said'. Prove '..Said' where nothing that the law and all that it calls make is longer than what came in: it says more and counts as full. Else prove '..UptoSaid'. A law counts once. -/
mutual
def uptoBulk {H : Type} : DataW H → Nat
  | .lit (.string bytes) => bytes.length + 1
  | .lit _ => 1
  | .nil => 1
  | .ptr d => uptoBulk d + 1
  | .slice elems spare => uptoBulkAll elems + uptoBulkAll spare + 1
  | .agg parts => uptoBulkAll parts + 1
  | .iface _ d => uptoBulk d + 1
  | .map entries => uptoBulkEntries entries + 1
  | .held _ => 1
def uptoBulkAll {H : Type} : List (DataW H) → Nat
  | [] => 0
  | d :: r => uptoBulk d + uptoBulkAll r
def uptoBulkEntries {H : Type} : List (Lit × DataW H) → Nat
  | [] => 0
  | x :: r => uptoBulkEntry x + uptoBulkEntries r
def uptoBulkEntry {H : Type} : Lit × DataW H → Nat
  | (.string bytes, d) => bytes.length + uptoBulk d + 1
  | (_, d) => uptoBulk d + 1
 end
def uptoSmall : (H : Type) → List (DataW H) → Bool := fun _ ds => decide (uptoBulkAll ds ≤ 1048576)
def OpenSpec.upto (s : _root_.Go.ChangeSpec) : _root_.Go.OpenSpec := { _root_.Go.OpenSpec.ofChange s with cond := some uptoSmall }

/-- 'hoardlaw11.TwoqFirst', WHERE WHAT IT READS IS OF BULK AT MOST 1048576: true; the input reads as it did. -/
def twoqFirstUptoRow : OpenClaim := { program := "ytjpoeblhibgjbaa", sum := "298e9a7c0286aae8b1b804e2d4cca5215d64c4023dce80f828a08fa8e3e78042", func := "hoard/hoardlaw11.TwoqFirst", spec := "twoqFirst", inPlace := ["internal/abi.NoEscape", "internal/bytealg.MakeNoZero"], apart := false, narrowed := true }
def TwoqFirstUptoSaid : Prop := twoqFirstUptoRow.holds Try.pinned (OpenSpec.upto twoqFirstSpec)

/-- 'hoardlaw11.TwoqFits', WHERE WHAT IT READS IS OF BULK AT MOST 1048576: true; the input reads as it did. -/
def twoqFitsUptoRow : OpenClaim := { program := "ytjpoeblhibgjbaa", sum := "298e9a7c0286aae8b1b804e2d4cca5215d64c4023dce80f828a08fa8e3e78042", func := "hoard/hoardlaw11.TwoqFits", spec := "twoqFits", inPlace := ["internal/abi.NoEscape", "internal/bytealg.MakeNoZero"], apart := false, narrowed := true }
def TwoqFitsUptoSaid : Prop := twoqFitsUptoRow.holds Try.pinned (OpenSpec.upto twoqFitsSpec)

/-- 'hoardlaw11.TwoqCounts', WHERE WHAT IT READS IS OF BULK AT MOST 1048576: true; the input reads as it did. -/
def twoqCountsUptoRow : OpenClaim := { program := "ytjpoeblhibgjbaa", sum := "298e9a7c0286aae8b1b804e2d4cca5215d64c4023dce80f828a08fa8e3e78042", func := "hoard/hoardlaw11.TwoqCounts", spec := "twoqCounts", inPlace := ["internal/abi.NoEscape", "internal/bytealg.MakeNoZero"], apart := false, narrowed := true }
def TwoqCountsUptoSaid : Prop := twoqCountsUptoRow.holds Try.pinned (OpenSpec.upto twoqCountsSpec)

/-- 'hoardlaw11.TwoqOne', WHERE WHAT IT READS IS OF BULK AT MOST 1048576: true; the input reads as it did. -/
def twoqOneUptoRow : OpenClaim := { program := "ytjpoeblhibgjbaa", sum := "298e9a7c0286aae8b1b804e2d4cca5215d64c4023dce80f828a08fa8e3e78042", func := "hoard/hoardlaw11.TwoqOne", spec := "twoqOne", inPlace := ["internal/abi.NoEscape", "internal/bytealg.MakeNoZero"], apart := false, narrowed := true }
def TwoqOneUptoSaid : Prop := twoqOneUptoRow.holds Try.pinned (OpenSpec.upto twoqOneSpec)

/-- 'hoardlaw11.TwoqTold', WHERE WHAT IT READS IS OF BULK AT MOST 1048576: true; the input reads as it did. -/
def twoqToldUptoRow : OpenClaim := { program := "ytjpoeblhibgjbaa", sum := "298e9a7c0286aae8b1b804e2d4cca5215d64c4023dce80f828a08fa8e3e78042", func := "hoard/hoardlaw11.TwoqTold", spec := "twoqTold", inPlace := ["internal/abi.NoEscape", "internal/bytealg.MakeNoZero"], apart := false, narrowed := true }
def TwoqToldUptoSaid : Prop := twoqToldUptoRow.holds Try.pinned (OpenSpec.upto twoqToldSpec)

/-- 'hoardlaw11.TwoqEmpties', WHERE WHAT IT READS IS OF BULK AT MOST 1048576: true; the input reads as it did. -/
def twoqEmptiesUptoRow : OpenClaim := { program := "ytjpoeblhibgjbaa", sum := "298e9a7c0286aae8b1b804e2d4cca5215d64c4023dce80f828a08fa8e3e78042", func := "hoard/hoardlaw11.TwoqEmpties", spec := "twoqEmpties", inPlace := ["internal/abi.NoEscape", "internal/bytealg.MakeNoZero"], apart := false, narrowed := true }
def TwoqEmptiesUptoSaid : Prop := twoqEmptiesUptoRow.holds Try.pinned (OpenSpec.upto twoqEmptiesSpec)

/-- 'hoardlaw11.TwoqLoads', WHERE WHAT IT READS IS OF BULK AT MOST 1048576: true; the input reads as it did. -/
def twoqLoadsUptoRow : OpenClaim := { program := "ytjpoeblhibgjbaa", sum := "298e9a7c0286aae8b1b804e2d4cca5215d64c4023dce80f828a08fa8e3e78042", func := "hoard/hoardlaw11.TwoqLoads", spec := "twoqLoads", inPlace := ["internal/abi.NoEscape", "internal/bytealg.MakeNoZero"], apart := false, narrowed := true }
def TwoqLoadsUptoSaid : Prop := twoqLoadsUptoRow.holds Try.pinned (OpenSpec.upto twoqLoadsSpec)

/-- 'hoardlaw11.TwoqRemoves', WHERE WHAT IT READS IS OF BULK AT MOST 1048576: true; the input reads as it did. -/
def twoqRemovesUptoRow : OpenClaim := { program := "ytjpoeblhibgjbaa", sum := "298e9a7c0286aae8b1b804e2d4cca5215d64c4023dce80f828a08fa8e3e78042", func := "hoard/hoardlaw11.TwoqRemoves", spec := "twoqRemoves", inPlace := ["internal/abi.NoEscape", "internal/bytealg.MakeNoZero"], apart := false, narrowed := true }
def TwoqRemovesUptoSaid : Prop := twoqRemovesUptoRow.holds Try.pinned (OpenSpec.upto twoqRemovesSpec)

/-- 'hoardlaw11.TwoqOwn', WHERE WHAT IT READS IS OF BULK AT MOST 1048576: true; the input reads as it did. -/
def twoqOwnUptoRow : OpenClaim := { program := "ytjpoeblhibgjbaa", sum := "298e9a7c0286aae8b1b804e2d4cca5215d64c4023dce80f828a08fa8e3e78042", func := "hoard/hoardlaw11.TwoqOwn", spec := "twoqOwn", inPlace := ["internal/abi.NoEscape", "internal/bytealg.MakeNoZero"], apart := false, narrowed := true }
def TwoqOwnUptoSaid : Prop := twoqOwnUptoRow.holds Try.pinned (OpenSpec.upto twoqOwnSpec)

/-- 'hoardlaw11.TwoqPlays', WHERE WHAT IT READS IS OF BULK AT MOST 1048576: true; the input reads as it did. -/
def twoqPlaysUptoRow : OpenClaim := { program := "ytjpoeblhibgjbaa", sum := "298e9a7c0286aae8b1b804e2d4cca5215d64c4023dce80f828a08fa8e3e78042", func := "hoard/hoardlaw11.TwoqPlays", spec := "twoqPlays", inPlace := ["internal/abi.NoEscape", "internal/bytealg.MakeNoZero"], apart := false, narrowed := true }
def TwoqPlaysUptoSaid : Prop := twoqPlaysUptoRow.holds Try.pinned (OpenSpec.upto twoqPlaysSpec)

/-- 'hoardlaw11.TwoqBounds', WHERE WHAT IT READS IS OF BULK AT MOST 1048576: true; the input reads as it did. -/
def twoqBoundsUptoRow : OpenClaim := { program := "ytjpoeblhibgjbaa", sum := "298e9a7c0286aae8b1b804e2d4cca5215d64c4023dce80f828a08fa8e3e78042", func := "hoard/hoardlaw11.TwoqBounds", spec := "twoqBounds", inPlace := ["internal/abi.NoEscape", "internal/bytealg.MakeNoZero"], apart := false, narrowed := true }
def TwoqBoundsUptoSaid : Prop := twoqBoundsUptoRow.holds Try.pinned (OpenSpec.upto twoqBoundsSpec)

/-- 'hoardlaw11.TwoqOfNothing', WHERE WHAT IT READS IS OF BULK AT MOST 1048576: true; the input reads as it did. -/
def twoqOfNothingUptoRow : OpenClaim := { program := "ytjpoeblhibgjbaa", sum := "298e9a7c0286aae8b1b804e2d4cca5215d64c4023dce80f828a08fa8e3e78042", func := "hoard/hoardlaw11.TwoqOfNothing", spec := "twoqOfNothing", inPlace := ["internal/abi.NoEscape", "internal/bytealg.MakeNoZero"], apart := false, narrowed := true }
def TwoqOfNothingUptoSaid : Prop := twoqOfNothingUptoRow.holds Try.pinned (OpenSpec.upto twoqOfNothingSpec)

end Rows
end Go.Proofs.Ytjpoeblhibgjbaa
