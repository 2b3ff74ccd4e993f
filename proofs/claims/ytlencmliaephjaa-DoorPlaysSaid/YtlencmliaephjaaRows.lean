/-
  No cell of these rows narrows 'for every input' (looked for: loops, veiled, ifaces, maps, wideKeys, modest, calm, conditions, laid).
  DERIVED. THE GIVEN ROWS OF THIS SEAT. 9 by the template 'for every input the law returns true; each argument reads behind the call as it read before'; 0 by the template 'total and deterministic' (their statements: YtlencmliaephjaaTotals.lean).
  GIVEN WITH THE SEED: the statements are not yours to turn. If you find one false, say at which input.
  Laid BY PROGRAM, IN A SANDBOX (cutbox-rows.mjs): the forced cells as the released guide's own fill.sh prints them over the translation 38c148e4ab0fb6e8… (all of the seat's roots in one cut). By AI agents, Wed Nov 11 2026. No macro, syntax, notation, axiom, sorry.
-/
import Derived.Test.YtlencmliaephjaaChecked
import GoSem.Claim
import GoSem.ClaimJoined
import GoSem.ClaimMapViews
import Derived.JoinedTies
import Derived.KernelRfl
namespace Go.Proofs.Ytlencmliaephjaa
/- THE CELL 'sum', in the pinned program and in every row, IS THE sha256 OF THE DUMP (.gsa) THAT YtlencmliaephjaaProg.lean LOADS. Nothing in Lean hashes anything: it is a label: what it is worth is what the hold of that sum in a sandbox is worth. -/
noncomputable def Try.pinned : Pinned := { name := "ytlencmliaephjaa", sum := "38c148e4ab0fb6e8b8e7d7bd252834702ae4905d9a759a41e718e9f753d377a6", checked := Try.checked }
namespace Rows
def none {H : Type} : Left H := { results := [], args := [] }

/-- 'hoardlaw7.SketchBelow': WHATEVER THE INPUT: true; the input reads as it did. -/
def sketchBelowSpec : ChangeSpec := { name := "sketchBelow", fn := fun _ => fun
  | [d1, d2] => { results := [.lit (.bool true)], args := [d1, d2] }
  | _ => none }
def sketchBelowRow : OpenClaim := { program := "ytlencmliaephjaa", sum := "38c148e4ab0fb6e8b8e7d7bd252834702ae4905d9a759a41e718e9f753d377a6", func := "hoard/hoardlaw7.SketchBelow", spec := "sketchBelow", apart := false }
def SketchBelowSaid : Prop := sketchBelowRow.holds Try.pinned (OpenSpec.ofChange sketchBelowSpec)

/-- ITS FALSE NEIGHBOUR: 'it returns false'. Refute it at one input. -/
def sketchBelowWrong : ChangeSpec := { name := "sketchBelow", fn := fun _ => fun
  | [d1, d2] => { results := [.lit (.bool false)], args := [d1, d2] }
  | _ => none }
def SketchBelowWrongFalsely : Prop := sketchBelowRow.holds Try.pinned (OpenSpec.ofChange sketchBelowWrong)

/-- 'hoardlaw8.DoorTurns': WHATEVER THE INPUT: true; the input reads as it did. -/
def doorTurnsSpec : ChangeSpec := { name := "doorTurns", fn := fun _ => fun
  | [d1, d2, d3] => { results := [.lit (.bool true)], args := [d1, d2, d3] }
  | _ => none }
def doorTurnsRow : OpenClaim := { program := "ytlencmliaephjaa", sum := "38c148e4ab0fb6e8b8e7d7bd252834702ae4905d9a759a41e718e9f753d377a6", func := "hoard/hoardlaw8.DoorTurns", spec := "doorTurns", apart := false }
def DoorTurnsSaid : Prop := doorTurnsRow.holds Try.pinned (OpenSpec.ofChange doorTurnsSpec)

/-- ITS FALSE NEIGHBOUR: 'it returns false'. Refute it at one input. -/
def doorTurnsWrong : ChangeSpec := { name := "doorTurns", fn := fun _ => fun
  | [d1, d2, d3] => { results := [.lit (.bool false)], args := [d1, d2, d3] }
  | _ => none }
def DoorTurnsWrongFalsely : Prop := doorTurnsRow.holds Try.pinned (OpenSpec.ofChange doorTurnsWrong)

/-- 'hoardlaw8.DoorPlays': WHATEVER THE INPUT: true; the input reads as it did. -/
def doorPlaysSpec : ChangeSpec := { name := "doorPlays", fn := fun _ => fun
  | [d1, d2, d3] => { results := [.lit (.bool true)], args := [d1, d2, d3] }
  | _ => none }
def doorPlaysRow : OpenClaim := { program := "ytlencmliaephjaa", sum := "38c148e4ab0fb6e8b8e7d7bd252834702ae4905d9a759a41e718e9f753d377a6", func := "hoard/hoardlaw8.DoorPlays", spec := "doorPlays", apart := false }
def DoorPlaysSaid : Prop := doorPlaysRow.holds Try.pinned (OpenSpec.ofChange doorPlaysSpec)

/-- ITS FALSE NEIGHBOUR: 'it returns false'. Refute it at one input. -/
def doorPlaysWrong : ChangeSpec := { name := "doorPlays", fn := fun _ => fun
  | [d1, d2, d3] => { results := [.lit (.bool false)], args := [d1, d2, d3] }
  | _ => none }
def DoorPlaysWrongFalsely : Prop := doorPlaysRow.holds Try.pinned (OpenSpec.ofChange doorPlaysWrong)

/-- 'hoardlaw8.DoorKeeps': WHATEVER THE INPUT: true; the input reads as it did. -/
def doorKeepsSpec : ChangeSpec := { name := "doorKeeps", fn := fun _ => fun
  | [d1, d2] => { results := [.lit (.bool true)], args := [d1, d2] }
  | _ => none }
def doorKeepsRow : OpenClaim := { program := "ytlencmliaephjaa", sum := "38c148e4ab0fb6e8b8e7d7bd252834702ae4905d9a759a41e718e9f753d377a6", func := "hoard/hoardlaw8.DoorKeeps", spec := "doorKeeps", apart := false }
def DoorKeepsSaid : Prop := doorKeepsRow.holds Try.pinned (OpenSpec.ofChange doorKeepsSpec)

/-- ITS FALSE NEIGHBOUR: 'it returns false'. Refute it at one input. -/
def doorKeepsWrong : ChangeSpec := { name := "doorKeeps", fn := fun _ => fun
  | [d1, d2] => { results := [.lit (.bool false)], args := [d1, d2] }
  | _ => none }
def DoorKeepsWrongFalsely : Prop := doorKeepsRow.holds Try.pinned (OpenSpec.ofChange doorKeepsWrong)

/-- 'hoardlaw8.DoorOfNothing': WHATEVER THE INPUT: true; the input reads as it did. -/
def doorOfNothingSpec : ChangeSpec := { name := "doorOfNothing", fn := fun _ => fun
  | [d] => { results := [.lit (.bool true)], args := [d] }
  | _ => none }
def doorOfNothingRow : OpenClaim := { program := "ytlencmliaephjaa", sum := "38c148e4ab0fb6e8b8e7d7bd252834702ae4905d9a759a41e718e9f753d377a6", func := "hoard/hoardlaw8.DoorOfNothing", spec := "doorOfNothing", apart := false }
def DoorOfNothingSaid : Prop := doorOfNothingRow.holds Try.pinned (OpenSpec.ofChange doorOfNothingSpec)

/-- ITS FALSE NEIGHBOUR: 'it returns false'. Refute it at one input. -/
def doorOfNothingWrong : ChangeSpec := { name := "doorOfNothing", fn := fun _ => fun
  | [d] => { results := [.lit (.bool false)], args := [d] }
  | _ => none }
def DoorOfNothingWrongFalsely : Prop := doorOfNothingRow.holds Try.pinned (OpenSpec.ofChange doorOfNothingWrong)

/-- 'hoardlaw7.SketchPlays': WHATEVER THE INPUT: true; the input reads as it did. -/
def sketchPlaysSpec : ChangeSpec := { name := "sketchPlays", fn := fun _ => fun
  | [d1, d2] => { results := [.lit (.bool true)], args := [d1, d2] }
  | _ => none }
def sketchPlaysRow : OpenClaim := { program := "ytlencmliaephjaa", sum := "38c148e4ab0fb6e8b8e7d7bd252834702ae4905d9a759a41e718e9f753d377a6", func := "hoard/hoardlaw7.SketchPlays", spec := "sketchPlays", apart := false }
def SketchPlaysSaid : Prop := sketchPlaysRow.holds Try.pinned (OpenSpec.ofChange sketchPlaysSpec)

/-- ITS FALSE NEIGHBOUR: 'it returns false'. Refute it at one input. -/
def sketchPlaysWrong : ChangeSpec := { name := "sketchPlays", fn := fun _ => fun
  | [d1, d2] => { results := [.lit (.bool false)], args := [d1, d2] }
  | _ => none }
def SketchPlaysWrongFalsely : Prop := sketchPlaysRow.holds Try.pinned (OpenSpec.ofChange sketchPlaysWrong)

/-- 'hoardlaw7.SketchHalves': WHATEVER THE INPUT: true; the input reads as it did. -/
def sketchHalvesSpec : ChangeSpec := { name := "sketchHalves", fn := fun _ => fun
  | [d1, d2, d3] => { results := [.lit (.bool true)], args := [d1, d2, d3] }
  | _ => none }
def sketchHalvesRow : OpenClaim := { program := "ytlencmliaephjaa", sum := "38c148e4ab0fb6e8b8e7d7bd252834702ae4905d9a759a41e718e9f753d377a6", func := "hoard/hoardlaw7.SketchHalves", spec := "sketchHalves", apart := false }
def SketchHalvesSaid : Prop := sketchHalvesRow.holds Try.pinned (OpenSpec.ofChange sketchHalvesSpec)

/-- ITS FALSE NEIGHBOUR: 'it returns false'. Refute it at one input. -/
def sketchHalvesWrong : ChangeSpec := { name := "sketchHalves", fn := fun _ => fun
  | [d1, d2, d3] => { results := [.lit (.bool false)], args := [d1, d2, d3] }
  | _ => none }
def SketchHalvesWrongFalsely : Prop := sketchHalvesRow.holds Try.pinned (OpenSpec.ofChange sketchHalvesWrong)

/-- 'hoardlaw7.SketchBounds': WHATEVER THE INPUT: true; the input reads as it did. -/
def sketchBoundsSpec : ChangeSpec := { name := "sketchBounds", fn := fun _ => fun
  | [d1, d2] => { results := [.lit (.bool true)], args := [d1, d2] }
  | _ => none }
def sketchBoundsRow : OpenClaim := { program := "ytlencmliaephjaa", sum := "38c148e4ab0fb6e8b8e7d7bd252834702ae4905d9a759a41e718e9f753d377a6", func := "hoard/hoardlaw7.SketchBounds", spec := "sketchBounds", apart := false }
def SketchBoundsSaid : Prop := sketchBoundsRow.holds Try.pinned (OpenSpec.ofChange sketchBoundsSpec)

/-- ITS FALSE NEIGHBOUR: 'it returns false'. Refute it at one input. -/
def sketchBoundsWrong : ChangeSpec := { name := "sketchBounds", fn := fun _ => fun
  | [d1, d2] => { results := [.lit (.bool false)], args := [d1, d2] }
  | _ => none }
def SketchBoundsWrongFalsely : Prop := sketchBoundsRow.holds Try.pinned (OpenSpec.ofChange sketchBoundsWrong)

/-- 'hoardlaw7.SketchOfNothing': WHATEVER THE INPUT: true; the input reads as it did. -/
def sketchOfNothingSpec : ChangeSpec := { name := "sketchOfNothing", fn := fun _ => fun
  | [d] => { results := [.lit (.bool true)], args := [d] }
  | _ => none }
def sketchOfNothingRow : OpenClaim := { program := "ytlencmliaephjaa", sum := "38c148e4ab0fb6e8b8e7d7bd252834702ae4905d9a759a41e718e9f753d377a6", func := "hoard/hoardlaw7.SketchOfNothing", spec := "sketchOfNothing", apart := false }
def SketchOfNothingSaid : Prop := sketchOfNothingRow.holds Try.pinned (OpenSpec.ofChange sketchOfNothingSpec)

/-- ITS FALSE NEIGHBOUR: 'it returns false'. Refute it at one input. -/
def sketchOfNothingWrong : ChangeSpec := { name := "sketchOfNothing", fn := fun _ => fun
  | [d] => { results := [.lit (.bool false)], args := [d] }
  | _ => none }
def SketchOfNothingWrongFalsely : Prop := sketchOfNothingRow.holds Try.pinned (OpenSpec.ofChange sketchOfNothingWrong)

/- THE SECOND FORM. 'bulk': how many values and letters a reading holds, each counted each time it is reached (what is shared counts as often as it is met; a slice's spare places count too). A statement '..UptoSaid' is the law's where the arguments, and the package variables that the reading takes, are together of bulk at most 1048576: NARROWER than '..Said'. Prove '..Said' where nothing that the law and all that it calls make is longer than what came in: it says more and counts as full. Else prove '..UptoSaid'. A law counts once. -/
mutual
def uptoBulk {H : Type} : DataW H → Nat
  | .lit (.string bytes) => bytes.length + 1
  | .lit _ => 1
  | .nil => 1
  | .ptr d => uptoBulk d + 1
  | .slice elems spare => uptoBulkAll elems + uptoBulkAll spare + 1
  | .agg parts => uptoBulkAll parts + 1
  | .iface _ d => uptoBulk d + 1
  | .map entries => uptoBulkEntries entries + 1
  | .held _ => 1
def uptoBulkAll {H : Type} : List (DataW H) → Nat
  | [] => 0
  | d :: r => uptoBulk d + uptoBulkAll r
def uptoBulkEntries {H : Type} : List (Lit × DataW H) → Nat
  | [] => 0
  | x :: r => uptoBulkEntry x + uptoBulkEntries r
def uptoBulkEntry {H : Type} : Lit × DataW H → Nat
  | (.string bytes, d) => bytes.length + uptoBulk d + 1
  | (_, d) => uptoBulk d + 1
 end
def uptoSmall : (H : Type) → List (DataW H) → Bool := fun _ ds => decide (uptoBulkAll ds ≤ 1048576)
def OpenSpec.upto (s : _root_.Go.ChangeSpec) : _root_.Go.OpenSpec := { _root_.Go.OpenSpec.ofChange s with cond := some uptoSmall }

/-- 'hoardlaw7.SketchBelow', WHERE WHAT IT READS IS OF BULK AT MOST 1048576: true; the input reads as it did. -/
def sketchBelowUptoRow : OpenClaim := { program := "ytlencmliaephjaa", sum := "38c148e4ab0fb6e8b8e7d7bd252834702ae4905d9a759a41e718e9f753d377a6", func := "hoard/hoardlaw7.SketchBelow", spec := "sketchBelow", apart := false, narrowed := true }
def SketchBelowUptoSaid : Prop := sketchBelowUptoRow.holds Try.pinned (OpenSpec.upto sketchBelowSpec)

/-- 'hoardlaw8.DoorTurns', WHERE WHAT IT READS IS OF BULK AT MOST 1048576: true; the input reads as it did. -/
def doorTurnsUptoRow : OpenClaim := { program := "ytlencmliaephjaa", sum := "38c148e4ab0fb6e8b8e7d7bd252834702ae4905d9a759a41e718e9f753d377a6", func := "hoard/hoardlaw8.DoorTurns", spec := "doorTurns", apart := false, narrowed := true }
def DoorTurnsUptoSaid : Prop := doorTurnsUptoRow.holds Try.pinned (OpenSpec.upto doorTurnsSpec)

/-- 'hoardlaw8.DoorPlays', WHERE WHAT IT READS IS OF BULK AT MOST 1048576: true; the input reads as it did. -/
def doorPlaysUptoRow : OpenClaim := { program := "ytlencmliaephjaa", sum := "38c148e4ab0fb6e8b8e7d7bd252834702ae4905d9a759a41e718e9f753d377a6", func := "hoard/hoardlaw8.DoorPlays", spec := "doorPlays", apart := false, narrowed := true }
def DoorPlaysUptoSaid : Prop := doorPlaysUptoRow.holds Try.pinned (OpenSpec.upto doorPlaysSpec)

/-- 'hoardlaw8.DoorKeeps', WHERE WHAT IT READS IS OF BULK AT MOST 1048576: true; the input reads as it did. -/
def doorKeepsUptoRow : OpenClaim := { program := "ytlencmliaephjaa", sum := "38c148e4ab0fb6e8b8e7d7bd252834702ae4905d9a759a41e718e9f753d377a6", func := "hoard/hoardlaw8.DoorKeeps", spec := "doorKeeps", apart := false, narrowed := true }
def DoorKeepsUptoSaid : Prop := doorKeepsUptoRow.holds Try.pinned (OpenSpec.upto doorKeepsSpec)

/-- 'hoardlaw8.DoorOfNothing', WHERE WHAT IT READS IS OF BULK AT MOST 1048576: true; the input reads as it did. -/
def doorOfNothingUptoRow : OpenClaim := { program := "ytlencmliaephjaa", sum := "38c148e4ab0fb6e8b8e7d7bd252834702ae4905d9a759a41e718e9f753d377a6", func := "hoard/hoardlaw8.DoorOfNothing", spec := "doorOfNothing", apart := false, narrowed := true }
def DoorOfNothingUptoSaid : Prop := doorOfNothingUptoRow.holds Try.pinned (OpenSpec.upto doorOfNothingSpec)

/-- 'hoardlaw7.SketchPlays', WHERE WHAT IT READS IS OF BULK AT MOST 1048576: true; the input reads as it did. -/
def sketchPlaysUptoRow : OpenClaim := { program := "ytlencmliaephjaa", sum := "38c148e4ab0fb6e8b8e7d7bd252834702ae4905d9a759a41e718e9f753d377a6", func := "hoard/hoardlaw7.SketchPlays", spec := "sketchPlays", apart := false, narrowed := true }
def SketchPlaysUptoSaid : Prop := sketchPlaysUptoRow.holds Try.pinned (OpenSpec.upto sketchPlaysSpec)

/-- 'hoardlaw7.SketchHalves', WHERE WHAT IT READS IS OF BULK AT MOST 1048576: true; the input reads as it did. -/
def sketchHalvesUptoRow : OpenClaim := { program := "ytlencmliaephjaa", sum := "38c148e4ab0fb6e8b8e7d7bd252834702ae4905d9a759a41e718e9f753d377a6", func := "hoard/hoardlaw7.SketchHalves", spec := "sketchHalves", apart := false, narrowed := true }
def SketchHalvesUptoSaid : Prop := sketchHalvesUptoRow.holds Try.pinned (OpenSpec.upto sketchHalvesSpec)

/-- 'hoardlaw7.SketchBounds', WHERE WHAT IT READS IS OF BULK AT MOST 1048576: true; the input reads as it did. -/
def sketchBoundsUptoRow : OpenClaim := { program := "ytlencmliaephjaa", sum := "38c148e4ab0fb6e8b8e7d7bd252834702ae4905d9a759a41e718e9f753d377a6", func := "hoard/hoardlaw7.SketchBounds", spec := "sketchBounds", apart := false, narrowed := true }
def SketchBoundsUptoSaid : Prop := sketchBoundsUptoRow.holds Try.pinned (OpenSpec.upto sketchBoundsSpec)

/-- 'hoardlaw7.SketchOfNothing', WHERE WHAT IT READS IS OF BULK AT MOST 1048576: true; the input reads as it did. -/
def sketchOfNothingUptoRow : OpenClaim := { program := "ytlencmliaephjaa", sum := "38c148e4ab0fb6e8b8e7d7bd252834702ae4905d9a759a41e718e9f753d377a6", func := "hoard/hoardlaw7.SketchOfNothing", spec := "sketchOfNothing", apart := false, narrowed := true }
def SketchOfNothingUptoSaid : Prop := sketchOfNothingUptoRow.holds Try.pinned (OpenSpec.upto sketchOfNothingSpec)

end Rows
end Go.Proofs.Ytlencmliaephjaa
