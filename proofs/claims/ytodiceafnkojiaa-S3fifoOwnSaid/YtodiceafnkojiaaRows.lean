/-
  No cell of these rows narrows 'for every input' (looked for: loops, veiled, ifaces, maps, wideKeys, modest, calm, conditions, laid).
  DERIVED. THE GIVEN ROWS OF THIS SEAT. 12 by the template 'for every input the law returns true; each argument reads behind the call as it read before'; 0 by the template 'total and deterministic' (their statements: YtodiceafnkojiaaTotals.lean).
  GIVEN WITH THE SEED: the statements are not yours to turn. If you find one false, say at which input.
  Laid BY PROGRAM, IN A SANDBOX (cutbox-rows.mjs): the forced cells as the released guide's own fill.sh prints them over the translation 7eb13771ec67d380… (all of the seat's roots in one cut). By AI agents, Wed Nov 11 2026. No macro, syntax, notation, axiom, sorry.
-/
import Derived.Test.YtodiceafnkojiaaChecked
import GoSem.Claim
import GoSem.ClaimJoined
import GoSem.ClaimMapViews
import Derived.JoinedTies
import Derived.KernelRfl
namespace Go.Proofs.Ytodiceafnkojiaa
/- THE CELL 'sum', in the pinned program and in every row, IS THE sha256 OF THE DUMP (.gsa) THAT YtodiceafnkojiaaProg.lean LOADS. Nothing in Lean hashes anything: it is a label: what it is worth is what the hold of that sum in a sandbox is worth. -/
noncomputable def Try.pinned : Pinned := { name := "ytodiceafnkojiaa", sum := "7eb13771ec67d3804f9bb807bc5e4bd920af6067f15a2ae255dcbb97a5e92bf5", checked := Try.checked }
namespace Rows
def none {H : Type} : Left H := { results := [], args := [] }

/-- 'hoardlaw12.S3fifoTold': WHATEVER THE INPUT: true; the input reads as it did. -/
def s3fifoToldSpec : ChangeSpec := { name := "s3fifoTold", fn := fun _ => fun
  | [d1, d2] => { results := [.lit (.bool true)], args := [d1, d2] }
  | _ => none }
def s3fifoToldRow : OpenClaim := { program := "ytodiceafnkojiaa", sum := "7eb13771ec67d3804f9bb807bc5e4bd920af6067f15a2ae255dcbb97a5e92bf5", func := "hoard/hoardlaw12.S3fifoTold", spec := "s3fifoTold", inPlace := ["internal/abi.NoEscape", "internal/bytealg.MakeNoZero"], apart := false }
def S3fifoToldSaid : Prop := s3fifoToldRow.holds Try.pinned (OpenSpec.ofChange s3fifoToldSpec)

/-- ITS FALSE NEIGHBOUR: 'it returns false'. Refute it at one input. -/
def s3fifoToldWrong : ChangeSpec := { name := "s3fifoTold", fn := fun _ => fun
  | [d1, d2] => { results := [.lit (.bool false)], args := [d1, d2] }
  | _ => none }
def S3fifoToldWrongFalsely : Prop := s3fifoToldRow.holds Try.pinned (OpenSpec.ofChange s3fifoToldWrong)

/-- 'hoardlaw12.S3fifoOnce': WHATEVER THE INPUT: true; the input reads as it did. -/
def s3fifoOnceSpec : ChangeSpec := { name := "s3fifoOnce", fn := fun _ => fun
  | [d1, d2] => { results := [.lit (.bool true)], args := [d1, d2] }
  | _ => none }
def s3fifoOnceRow : OpenClaim := { program := "ytodiceafnkojiaa", sum := "7eb13771ec67d3804f9bb807bc5e4bd920af6067f15a2ae255dcbb97a5e92bf5", func := "hoard/hoardlaw12.S3fifoOnce", spec := "s3fifoOnce", inPlace := ["internal/abi.NoEscape", "internal/bytealg.MakeNoZero"], apart := false }
def S3fifoOnceSaid : Prop := s3fifoOnceRow.holds Try.pinned (OpenSpec.ofChange s3fifoOnceSpec)

/-- ITS FALSE NEIGHBOUR: 'it returns false'. Refute it at one input. -/
def s3fifoOnceWrong : ChangeSpec := { name := "s3fifoOnce", fn := fun _ => fun
  | [d1, d2] => { results := [.lit (.bool false)], args := [d1, d2] }
  | _ => none }
def S3fifoOnceWrongFalsely : Prop := s3fifoOnceRow.holds Try.pinned (OpenSpec.ofChange s3fifoOnceWrong)

/-- 'hoardlaw12.S3fifoFits': WHATEVER THE INPUT: true; the input reads as it did. -/
def s3fifoFitsSpec : ChangeSpec := { name := "s3fifoFits", fn := fun _ => fun
  | [d1, d2] => { results := [.lit (.bool true)], args := [d1, d2] }
  | _ => none }
def s3fifoFitsRow : OpenClaim := { program := "ytodiceafnkojiaa", sum := "7eb13771ec67d3804f9bb807bc5e4bd920af6067f15a2ae255dcbb97a5e92bf5", func := "hoard/hoardlaw12.S3fifoFits", spec := "s3fifoFits", inPlace := ["internal/abi.NoEscape", "internal/bytealg.MakeNoZero"], apart := false }
def S3fifoFitsSaid : Prop := s3fifoFitsRow.holds Try.pinned (OpenSpec.ofChange s3fifoFitsSpec)

/-- ITS FALSE NEIGHBOUR: 'it returns false'. Refute it at one input. -/
def s3fifoFitsWrong : ChangeSpec := { name := "s3fifoFits", fn := fun _ => fun
  | [d1, d2] => { results := [.lit (.bool false)], args := [d1, d2] }
  | _ => none }
def S3fifoFitsWrongFalsely : Prop := s3fifoFitsRow.holds Try.pinned (OpenSpec.ofChange s3fifoFitsWrong)

/-- 'hoardlaw12.S3fifoCounts': WHATEVER THE INPUT: true; the input reads as it did. -/
def s3fifoCountsSpec : ChangeSpec := { name := "s3fifoCounts", fn := fun _ => fun
  | [d1, d2] => { results := [.lit (.bool true)], args := [d1, d2] }
  | _ => none }
def s3fifoCountsRow : OpenClaim := { program := "ytodiceafnkojiaa", sum := "7eb13771ec67d3804f9bb807bc5e4bd920af6067f15a2ae255dcbb97a5e92bf5", func := "hoard/hoardlaw12.S3fifoCounts", spec := "s3fifoCounts", inPlace := ["internal/abi.NoEscape", "internal/bytealg.MakeNoZero"], apart := false }
def S3fifoCountsSaid : Prop := s3fifoCountsRow.holds Try.pinned (OpenSpec.ofChange s3fifoCountsSpec)

/-- ITS FALSE NEIGHBOUR: 'it returns false'. Refute it at one input. -/
def s3fifoCountsWrong : ChangeSpec := { name := "s3fifoCounts", fn := fun _ => fun
  | [d1, d2] => { results := [.lit (.bool false)], args := [d1, d2] }
  | _ => none }
def S3fifoCountsWrongFalsely : Prop := s3fifoCountsRow.holds Try.pinned (OpenSpec.ofChange s3fifoCountsWrong)

/-- 'hoardlaw12.S3fifoOne': WHATEVER THE INPUT: true; the input reads as it did. -/
def s3fifoOneSpec : ChangeSpec := { name := "s3fifoOne", fn := fun _ => fun
  | [d] => { results := [.lit (.bool true)], args := [d] }
  | _ => none }
def s3fifoOneRow : OpenClaim := { program := "ytodiceafnkojiaa", sum := "7eb13771ec67d3804f9bb807bc5e4bd920af6067f15a2ae255dcbb97a5e92bf5", func := "hoard/hoardlaw12.S3fifoOne", spec := "s3fifoOne", inPlace := ["internal/abi.NoEscape", "internal/bytealg.MakeNoZero"], apart := false }
def S3fifoOneSaid : Prop := s3fifoOneRow.holds Try.pinned (OpenSpec.ofChange s3fifoOneSpec)

/-- ITS FALSE NEIGHBOUR: 'it returns false'. Refute it at one input. -/
def s3fifoOneWrong : ChangeSpec := { name := "s3fifoOne", fn := fun _ => fun
  | [d] => { results := [.lit (.bool false)], args := [d] }
  | _ => none }
def S3fifoOneWrongFalsely : Prop := s3fifoOneRow.holds Try.pinned (OpenSpec.ofChange s3fifoOneWrong)

/-- 'hoardlaw12.S3fifoEmpties': WHATEVER THE INPUT: true; the input reads as it did. -/
def s3fifoEmptiesSpec : ChangeSpec := { name := "s3fifoEmpties", fn := fun _ => fun
  | [d1, d2] => { results := [.lit (.bool true)], args := [d1, d2] }
  | _ => none }
def s3fifoEmptiesRow : OpenClaim := { program := "ytodiceafnkojiaa", sum := "7eb13771ec67d3804f9bb807bc5e4bd920af6067f15a2ae255dcbb97a5e92bf5", func := "hoard/hoardlaw12.S3fifoEmpties", spec := "s3fifoEmpties", inPlace := ["internal/abi.NoEscape", "internal/bytealg.MakeNoZero"], apart := false }
def S3fifoEmptiesSaid : Prop := s3fifoEmptiesRow.holds Try.pinned (OpenSpec.ofChange s3fifoEmptiesSpec)

/-- ITS FALSE NEIGHBOUR: 'it returns false'. Refute it at one input. -/
def s3fifoEmptiesWrong : ChangeSpec := { name := "s3fifoEmpties", fn := fun _ => fun
  | [d1, d2] => { results := [.lit (.bool false)], args := [d1, d2] }
  | _ => none }
def S3fifoEmptiesWrongFalsely : Prop := s3fifoEmptiesRow.holds Try.pinned (OpenSpec.ofChange s3fifoEmptiesWrong)

/-- 'hoardlaw12.S3fifoLoads': WHATEVER THE INPUT: true; the input reads as it did. -/
def s3fifoLoadsSpec : ChangeSpec := { name := "s3fifoLoads", fn := fun _ => fun
  | [d1, d2, d3] => { results := [.lit (.bool true)], args := [d1, d2, d3] }
  | _ => none }
def s3fifoLoadsRow : OpenClaim := { program := "ytodiceafnkojiaa", sum := "7eb13771ec67d3804f9bb807bc5e4bd920af6067f15a2ae255dcbb97a5e92bf5", func := "hoard/hoardlaw12.S3fifoLoads", spec := "s3fifoLoads", inPlace := ["internal/abi.NoEscape", "internal/bytealg.MakeNoZero"], apart := false }
def S3fifoLoadsSaid : Prop := s3fifoLoadsRow.holds Try.pinned (OpenSpec.ofChange s3fifoLoadsSpec)

/-- ITS FALSE NEIGHBOUR: 'it returns false'. Refute it at one input. -/
def s3fifoLoadsWrong : ChangeSpec := { name := "s3fifoLoads", fn := fun _ => fun
  | [d1, d2, d3] => { results := [.lit (.bool false)], args := [d1, d2, d3] }
  | _ => none }
def S3fifoLoadsWrongFalsely : Prop := s3fifoLoadsRow.holds Try.pinned (OpenSpec.ofChange s3fifoLoadsWrong)

/-- 'hoardlaw12.S3fifoRemoves': WHATEVER THE INPUT: true; the input reads as it did. -/
def s3fifoRemovesSpec : ChangeSpec := { name := "s3fifoRemoves", fn := fun _ => fun
  | [d1, d2, d3] => { results := [.lit (.bool true)], args := [d1, d2, d3] }
  | _ => none }
def s3fifoRemovesRow : OpenClaim := { program := "ytodiceafnkojiaa", sum := "7eb13771ec67d3804f9bb807bc5e4bd920af6067f15a2ae255dcbb97a5e92bf5", func := "hoard/hoardlaw12.S3fifoRemoves", spec := "s3fifoRemoves", inPlace := ["internal/abi.NoEscape", "internal/bytealg.MakeNoZero"], apart := false }
def S3fifoRemovesSaid : Prop := s3fifoRemovesRow.holds Try.pinned (OpenSpec.ofChange s3fifoRemovesSpec)

/-- ITS FALSE NEIGHBOUR: 'it returns false'. Refute it at one input. -/
def s3fifoRemovesWrong : ChangeSpec := { name := "s3fifoRemoves", fn := fun _ => fun
  | [d1, d2, d3] => { results := [.lit (.bool false)], args := [d1, d2, d3] }
  | _ => none }
def S3fifoRemovesWrongFalsely : Prop := s3fifoRemovesRow.holds Try.pinned (OpenSpec.ofChange s3fifoRemovesWrong)

/-- 'hoardlaw12.S3fifoOwn': WHATEVER THE INPUT: true; the input reads as it did. -/
def s3fifoOwnSpec : ChangeSpec := { name := "s3fifoOwn", fn := fun _ => fun
  | [d1, d2] => { results := [.lit (.bool true)], args := [d1, d2] }
  | _ => none }
def s3fifoOwnRow : OpenClaim := { program := "ytodiceafnkojiaa", sum := "7eb13771ec67d3804f9bb807bc5e4bd920af6067f15a2ae255dcbb97a5e92bf5", func := "hoard/hoardlaw12.S3fifoOwn", spec := "s3fifoOwn", inPlace := ["internal/abi.NoEscape", "internal/bytealg.MakeNoZero"], apart := false }
def S3fifoOwnSaid : Prop := s3fifoOwnRow.holds Try.pinned (OpenSpec.ofChange s3fifoOwnSpec)

/-- ITS FALSE NEIGHBOUR: 'it returns false'. Refute it at one input. -/
def s3fifoOwnWrong : ChangeSpec := { name := "s3fifoOwn", fn := fun _ => fun
  | [d1, d2] => { results := [.lit (.bool false)], args := [d1, d2] }
  | _ => none }
def S3fifoOwnWrongFalsely : Prop := s3fifoOwnRow.holds Try.pinned (OpenSpec.ofChange s3fifoOwnWrong)

/-- 'hoardlaw12.S3fifoPlays': WHATEVER THE INPUT: true; the input reads as it did. -/
def s3fifoPlaysSpec : ChangeSpec := { name := "s3fifoPlays", fn := fun _ => fun
  | [d1, d2] => { results := [.lit (.bool true)], args := [d1, d2] }
  | _ => none }
def s3fifoPlaysRow : OpenClaim := { program := "ytodiceafnkojiaa", sum := "7eb13771ec67d3804f9bb807bc5e4bd920af6067f15a2ae255dcbb97a5e92bf5", func := "hoard/hoardlaw12.S3fifoPlays", spec := "s3fifoPlays", inPlace := ["internal/abi.NoEscape", "internal/bytealg.MakeNoZero"], apart := false }
def S3fifoPlaysSaid : Prop := s3fifoPlaysRow.holds Try.pinned (OpenSpec.ofChange s3fifoPlaysSpec)

/-- ITS FALSE NEIGHBOUR: 'it returns false'. Refute it at one input. -/
def s3fifoPlaysWrong : ChangeSpec := { name := "s3fifoPlays", fn := fun _ => fun
  | [d1, d2] => { results := [.lit (.bool false)], args := [d1, d2] }
  | _ => none }
def S3fifoPlaysWrongFalsely : Prop := s3fifoPlaysRow.holds Try.pinned (OpenSpec.ofChange s3fifoPlaysWrong)

/-- 'hoardlaw12.S3fifoBounds': WHATEVER THE INPUT: true; the input reads as it did. -/
def s3fifoBoundsSpec : ChangeSpec := { name := "s3fifoBounds", fn := fun _ => fun
  | [d1, d2] => { results := [.lit (.bool true)], args := [d1, d2] }
  | _ => none }
def s3fifoBoundsRow : OpenClaim := { program := "ytodiceafnkojiaa", sum := "7eb13771ec67d3804f9bb807bc5e4bd920af6067f15a2ae255dcbb97a5e92bf5", func := "hoard/hoardlaw12.S3fifoBounds", spec := "s3fifoBounds", inPlace := ["internal/abi.NoEscape", "internal/bytealg.MakeNoZero"], apart := false }
def S3fifoBoundsSaid : Prop := s3fifoBoundsRow.holds Try.pinned (OpenSpec.ofChange s3fifoBoundsSpec)

/-- ITS FALSE NEIGHBOUR: 'it returns false'. Refute it at one input. -/
def s3fifoBoundsWrong : ChangeSpec := { name := "s3fifoBounds", fn := fun _ => fun
  | [d1, d2] => { results := [.lit (.bool false)], args := [d1, d2] }
  | _ => none }
def S3fifoBoundsWrongFalsely : Prop := s3fifoBoundsRow.holds Try.pinned (OpenSpec.ofChange s3fifoBoundsWrong)

/-- 'hoardlaw12.S3fifoOfNothing': WHATEVER THE INPUT: true; the input reads as it did. -/
def s3fifoOfNothingSpec : ChangeSpec := { name := "s3fifoOfNothing", fn := fun _ => fun
  | [d] => { results := [.lit (.bool true)], args := [d] }
  | _ => none }
def s3fifoOfNothingRow : OpenClaim := { program := "ytodiceafnkojiaa", sum := "7eb13771ec67d3804f9bb807bc5e4bd920af6067f15a2ae255dcbb97a5e92bf5", func := "hoard/hoardlaw12.S3fifoOfNothing", spec := "s3fifoOfNothing", inPlace := ["internal/abi.NoEscape", "internal/bytealg.MakeNoZero"], apart := false }
def S3fifoOfNothingSaid : Prop := s3fifoOfNothingRow.holds Try.pinned (OpenSpec.ofChange s3fifoOfNothingSpec)

/-- ITS FALSE NEIGHBOUR: 'it returns false'. Refute it at one input. -/
def s3fifoOfNothingWrong : ChangeSpec := { name := "s3fifoOfNothing", fn := fun _ => fun
  | [d] => { results := [.lit (.bool false)], args := [d] }
  | _ => none }
def S3fifoOfNothingWrongFalsely : Prop := s3fifoOfNothingRow.holds Try.pinned (OpenSpec.ofChange s3fifoOfNothingWrong)

/- THE SECOND FORM. 'bulk': how many values and letters a reading holds, each counted each time it is reached (what is shared counts as often as it is met; a slice's spare places count too). A statement '..UptoSaid' is the law's where the arguments, and the package variables that the reading takes, are together of bulk at most 1048576: NARROWER than '..Said'. Prove '..Said' where nothing that the law and all that it calls make is longer than what came in: it says more and counts as full. Else prove '..UptoSaid'. A law counts once. -/
mutual
def uptoBulk {H : Type} : DataW H → Nat
  | .lit (.string bytes) => bytes.length + 1
  | .lit _ => 1
  | .nil => 1
  | .ptr d => uptoBulk d + 1
  | .slice elems spare => uptoBulkAll elems + uptoBulkAll spare + 1
  | .agg parts => uptoBulkAll parts + 1
  | .iface _ d => uptoBulk d + 1
  | .map entries => uptoBulkEntries entries + 1
  | .held _ => 1
def uptoBulkAll {H : Type} : List (DataW H) → Nat
  | [] => 0
  | d :: r => uptoBulk d + uptoBulkAll r
def uptoBulkEntries {H : Type} : List (Lit × DataW H) → Nat
  | [] => 0
  | x :: r => uptoBulkEntry x + uptoBulkEntries r
def uptoBulkEntry {H : Type} : Lit × DataW H → Nat
  | (.string bytes, d) => bytes.length + uptoBulk d + 1
  | (_, d) => uptoBulk d + 1
 end
def uptoSmall : (H : Type) → List (DataW H) → Bool := fun _ ds => decide (uptoBulkAll ds ≤ 1048576)
def OpenSpec.upto (s : _root_.Go.ChangeSpec) : _root_.Go.OpenSpec := { _root_.Go.OpenSpec.ofChange s with cond := some uptoSmall }

/-- 'hoardlaw12.S3fifoTold', WHERE WHAT IT READS IS OF BULK AT MOST 1048576: true; the input reads as it did. -/
def s3fifoToldUptoRow : OpenClaim := { program := "ytodiceafnkojiaa", sum := "7eb13771ec67d3804f9bb807bc5e4bd920af6067f15a2ae255dcbb97a5e92bf5", func := "hoard/hoardlaw12.S3fifoTold", spec := "s3fifoTold", inPlace := ["internal/abi.NoEscape", "internal/bytealg.MakeNoZero"], apart := false, narrowed := true }
def S3fifoToldUptoSaid : Prop := s3fifoToldUptoRow.holds Try.pinned (OpenSpec.upto s3fifoToldSpec)

/-- 'hoardlaw12.S3fifoOnce', WHERE WHAT IT READS IS OF BULK AT MOST 1048576: true; the input reads as it did. -/
def s3fifoOnceUptoRow : OpenClaim := { program := "ytodiceafnkojiaa", sum := "7eb13771ec67d3804f9bb807bc5e4bd920af6067f15a2ae255dcbb97a5e92bf5", func := "hoard/hoardlaw12.S3fifoOnce", spec := "s3fifoOnce", inPlace := ["internal/abi.NoEscape", "internal/bytealg.MakeNoZero"], apart := false, narrowed := true }
def S3fifoOnceUptoSaid : Prop := s3fifoOnceUptoRow.holds Try.pinned (OpenSpec.upto s3fifoOnceSpec)

/-- 'hoardlaw12.S3fifoFits', WHERE WHAT IT READS IS OF BULK AT MOST 1048576: true; the input reads as it did. -/
def s3fifoFitsUptoRow : OpenClaim := { program := "ytodiceafnkojiaa", sum := "7eb13771ec67d3804f9bb807bc5e4bd920af6067f15a2ae255dcbb97a5e92bf5", func := "hoard/hoardlaw12.S3fifoFits", spec := "s3fifoFits", inPlace := ["internal/abi.NoEscape", "internal/bytealg.MakeNoZero"], apart := false, narrowed := true }
def S3fifoFitsUptoSaid : Prop := s3fifoFitsUptoRow.holds Try.pinned (OpenSpec.upto s3fifoFitsSpec)

/-- 'hoardlaw12.S3fifoCounts', WHERE WHAT IT READS IS OF BULK AT MOST 1048576: true; the input reads as it did. -/
def s3fifoCountsUptoRow : OpenClaim := { program := "ytodiceafnkojiaa", sum := "7eb13771ec67d3804f9bb807bc5e4bd920af6067f15a2ae255dcbb97a5e92bf5", func := "hoard/hoardlaw12.S3fifoCounts", spec := "s3fifoCounts", inPlace := ["internal/abi.NoEscape", "internal/bytealg.MakeNoZero"], apart := false, narrowed := true }
def S3fifoCountsUptoSaid : Prop := s3fifoCountsUptoRow.holds Try.pinned (OpenSpec.upto s3fifoCountsSpec)

/-- 'hoardlaw12.S3fifoOne', WHERE WHAT IT READS IS OF BULK AT MOST 1048576: true; the input reads as it did. -/
def s3fifoOneUptoRow : OpenClaim := { program := "ytodiceafnkojiaa", sum := "7eb13771ec67d3804f9bb807bc5e4bd920af6067f15a2ae255dcbb97a5e92bf5", func := "hoard/hoardlaw12.S3fifoOne", spec := "s3fifoOne", inPlace := ["internal/abi.NoEscape", "internal/bytealg.MakeNoZero"], apart := false, narrowed := true }
def S3fifoOneUptoSaid : Prop := s3fifoOneUptoRow.holds Try.pinned (OpenSpec.upto s3fifoOneSpec)

/-- 'hoardlaw12.S3fifoEmpties', WHERE WHAT IT READS IS OF BULK AT MOST 1048576: true; the input reads as it did. -/
def s3fifoEmptiesUptoRow : OpenClaim := { program := "ytodiceafnkojiaa", sum := "7eb13771ec67d3804f9bb807bc5e4bd920af6067f15a2ae255dcbb97a5e92bf5", func := "hoard/hoardlaw12.S3fifoEmpties", spec := "s3fifoEmpties", inPlace := ["internal/abi.NoEscape", "internal/bytealg.MakeNoZero"], apart := false, narrowed := true }
def S3fifoEmptiesUptoSaid : Prop := s3fifoEmptiesUptoRow.holds Try.pinned (OpenSpec.upto s3fifoEmptiesSpec)

/-- 'hoardlaw12.S3fifoLoads', WHERE WHAT IT READS IS OF BULK AT MOST 1048576: true; the input reads as it did. -/
def s3fifoLoadsUptoRow : OpenClaim := { program := "ytodiceafnkojiaa", sum := "7eb13771ec67d3804f9bb807bc5e4bd920af6067f15a2ae255dcbb97a5e92bf5", func := "hoard/hoardlaw12.S3fifoLoads", spec := "s3fifoLoads", inPlace := ["internal/abi.NoEscape", "internal/bytealg.MakeNoZero"], apart := false, narrowed := true }
def S3fifoLoadsUptoSaid : Prop := s3fifoLoadsUptoRow.holds Try.pinned (OpenSpec.upto s3fifoLoadsSpec)

/-- 'hoardlaw12.S3fifoRemoves', WHERE WHAT IT READS IS OF BULK AT MOST 1048576: true; the input reads as it did. -/
def s3fifoRemovesUptoRow : OpenClaim := { program := "ytodiceafnkojiaa", sum := "7eb13771ec67d3804f9bb807bc5e4bd920af6067f15a2ae255dcbb97a5e92bf5", func := "hoard/hoardlaw12.S3fifoRemoves", spec := "s3fifoRemoves", inPlace := ["internal/abi.NoEscape", "internal/bytealg.MakeNoZero"], apart := false, narrowed := true }
def S3fifoRemovesUptoSaid : Prop := s3fifoRemovesUptoRow.holds Try.pinned (OpenSpec.upto s3fifoRemovesSpec)

/-- 'hoardlaw12.S3fifoOwn', WHERE WHAT IT READS IS OF BULK AT MOST 1048576: true; the input reads as it did. -/
def s3fifoOwnUptoRow : OpenClaim := { program := "ytodiceafnkojiaa", sum := "7eb13771ec67d3804f9bb807bc5e4bd920af6067f15a2ae255dcbb97a5e92bf5", func := "hoard/hoardlaw12.S3fifoOwn", spec := "s3fifoOwn", inPlace := ["internal/abi.NoEscape", "internal/bytealg.MakeNoZero"], apart := false, narrowed := true }
def S3fifoOwnUptoSaid : Prop := s3fifoOwnUptoRow.holds Try.pinned (OpenSpec.upto s3fifoOwnSpec)

/-- 'hoardlaw12.S3fifoPlays', WHERE WHAT IT READS IS OF BULK AT MOST 1048576: true; the input reads as it did. -/
def s3fifoPlaysUptoRow : OpenClaim := { program := "ytodiceafnkojiaa", sum := "7eb13771ec67d3804f9bb807bc5e4bd920af6067f15a2ae255dcbb97a5e92bf5", func := "hoard/hoardlaw12.S3fifoPlays", spec := "s3fifoPlays", inPlace := ["internal/abi.NoEscape", "internal/bytealg.MakeNoZero"], apart := false, narrowed := true }
def S3fifoPlaysUptoSaid : Prop := s3fifoPlaysUptoRow.holds Try.pinned (OpenSpec.upto s3fifoPlaysSpec)

/-- 'hoardlaw12.S3fifoBounds', WHERE WHAT IT READS IS OF BULK AT MOST 1048576: true; the input reads as it did. -/
def s3fifoBoundsUptoRow : OpenClaim := { program := "ytodiceafnkojiaa", sum := "7eb13771ec67d3804f9bb807bc5e4bd920af6067f15a2ae255dcbb97a5e92bf5", func := "hoard/hoardlaw12.S3fifoBounds", spec := "s3fifoBounds", inPlace := ["internal/abi.NoEscape", "internal/bytealg.MakeNoZero"], apart := false, narrowed := true }
def S3fifoBoundsUptoSaid : Prop := s3fifoBoundsUptoRow.holds Try.pinned (OpenSpec.upto s3fifoBoundsSpec)

/-- 'hoardlaw12.S3fifoOfNothing', WHERE WHAT IT READS IS OF BULK AT MOST 1048576: true; the input reads as it did. -/
def s3fifoOfNothingUptoRow : OpenClaim := { program := "ytodiceafnkojiaa", sum := "7eb13771ec67d3804f9bb807bc5e4bd920af6067f15a2ae255dcbb97a5e92bf5", func := "hoard/hoardlaw12.S3fifoOfNothing", spec := "s3fifoOfNothing", inPlace := ["internal/abi.NoEscape", "internal/bytealg.MakeNoZero"], apart := false, narrowed := true }
def S3fifoOfNothingUptoSaid : Prop := s3fifoOfNothingUptoRow.holds Try.pinned (OpenSpec.upto s3fifoOfNothingSpec)

end Rows
end Go.Proofs.Ytodiceafnkojiaa
