/-
  No cell of these rows narrows 'for every input' (looked for: loops, veiled, ifaces, maps, wideKeys, modest, calm, conditions, laid).
  DERIVED. THE GIVEN ROWS OF THIS SEAT. 7 by the template 'for every input the law returns true; each argument reads behind the call as it read before'; 0 by the template 'total and deterministic' (their statements: YtkeicfajlmhajaaGreatTotals.lean).
  GIVEN WITH THE SEED: the statements are not yours to turn. If you find one false, say at which input.
  Laid BY PROGRAM, IN A SANDBOX (cutbox-rows.mjs): the forced cells as the released guide's own fill.sh prints them over the translation d1508f14ecbe9dbe… (all of the seat's roots in one cut). By AI agents, Wed Nov 11 2026. No macro, syntax, notation, axiom, sorry.
-/
import Derived.Test.YtkeicfajlmhajaaGreatChecked
import GoSem.Claim
import GoSem.ClaimJoined
import GoSem.ClaimMapViews
import Derived.JoinedTies
import Derived.KernelRfl
namespace Go.Proofs.YtkeicfajlmhajaaGreat
/- THE CELL 'sum', in the pinned program and in every row, IS THE sha256 OF THE DUMP (.gsa) THAT YtkeicfajlmhajaaGreatProg.lean LOADS. Nothing in Lean hashes anything: it is a label: what it is worth is what the hold of that sum in a sandbox is worth. -/
noncomputable def Tryz.pinned : Pinned := { name := "ytkeicfajlmhajaagreat", sum := "d1508f14ecbe9dbe6fc72afca5463f4e9ac3410d1dc679cf62d50004d110612f", checked := Tryz.checked }
namespace Rows
def none {H : Type} : Left H := { results := [], args := [] }

/-- 'hoardlaw14.TinylfuOften': WHATEVER THE INPUT: true; the input reads as it did. -/
def tinylfuOftenSpec : ChangeSpec := { name := "tinylfuOften", fn := fun _ => fun
  | [d1, d2, d3] => { results := [.lit (.bool true)], args := [d1, d2, d3] }
  | _ => none }
def tinylfuOftenRow : OpenClaim := { program := "ytkeicfajlmhajaagreat", sum := "d1508f14ecbe9dbe6fc72afca5463f4e9ac3410d1dc679cf62d50004d110612f", func := "hoard/hoardlaw14.TinylfuOften", spec := "tinylfuOften", inPlace := ["internal/abi.NoEscape", "internal/bytealg.MakeNoZero"], apart := false }
def TinylfuOftenSaid : Prop := tinylfuOftenRow.holds Tryz.pinned (OpenSpec.ofChange tinylfuOftenSpec)

/-- ITS FALSE NEIGHBOUR: 'it returns false'. Refute it at one input. -/
def tinylfuOftenWrong : ChangeSpec := { name := "tinylfuOften", fn := fun _ => fun
  | [d1, d2, d3] => { results := [.lit (.bool false)], args := [d1, d2, d3] }
  | _ => none }
def TinylfuOftenWrongFalsely : Prop := tinylfuOftenRow.holds Tryz.pinned (OpenSpec.ofChange tinylfuOftenWrong)

/-- 'hoardlaw14.TinylfuEmpties': WHATEVER THE INPUT: true; the input reads as it did. -/
def tinylfuEmptiesSpec : ChangeSpec := { name := "tinylfuEmpties", fn := fun _ => fun
  | [d1, d2] => { results := [.lit (.bool true)], args := [d1, d2] }
  | _ => none }
def tinylfuEmptiesRow : OpenClaim := { program := "ytkeicfajlmhajaagreat", sum := "d1508f14ecbe9dbe6fc72afca5463f4e9ac3410d1dc679cf62d50004d110612f", func := "hoard/hoardlaw14.TinylfuEmpties", spec := "tinylfuEmpties", inPlace := ["internal/abi.NoEscape", "internal/bytealg.MakeNoZero"], apart := false }
def TinylfuEmptiesSaid : Prop := tinylfuEmptiesRow.holds Tryz.pinned (OpenSpec.ofChange tinylfuEmptiesSpec)

/-- ITS FALSE NEIGHBOUR: 'it returns false'. Refute it at one input. -/
def tinylfuEmptiesWrong : ChangeSpec := { name := "tinylfuEmpties", fn := fun _ => fun
  | [d1, d2] => { results := [.lit (.bool false)], args := [d1, d2] }
  | _ => none }
def TinylfuEmptiesWrongFalsely : Prop := tinylfuEmptiesRow.holds Tryz.pinned (OpenSpec.ofChange tinylfuEmptiesWrong)

/-- 'hoardlaw14.TinylfuLoads': WHATEVER THE INPUT: true; the input reads as it did. -/
def tinylfuLoadsSpec : ChangeSpec := { name := "tinylfuLoads", fn := fun _ => fun
  | [d1, d2, d3] => { results := [.lit (.bool true)], args := [d1, d2, d3] }
  | _ => none }
def tinylfuLoadsRow : OpenClaim := { program := "ytkeicfajlmhajaagreat", sum := "d1508f14ecbe9dbe6fc72afca5463f4e9ac3410d1dc679cf62d50004d110612f", func := "hoard/hoardlaw14.TinylfuLoads", spec := "tinylfuLoads", inPlace := ["internal/abi.NoEscape", "internal/bytealg.MakeNoZero"], apart := false }
def TinylfuLoadsSaid : Prop := tinylfuLoadsRow.holds Tryz.pinned (OpenSpec.ofChange tinylfuLoadsSpec)

/-- ITS FALSE NEIGHBOUR: 'it returns false'. Refute it at one input. -/
def tinylfuLoadsWrong : ChangeSpec := { name := "tinylfuLoads", fn := fun _ => fun
  | [d1, d2, d3] => { results := [.lit (.bool false)], args := [d1, d2, d3] }
  | _ => none }
def TinylfuLoadsWrongFalsely : Prop := tinylfuLoadsRow.holds Tryz.pinned (OpenSpec.ofChange tinylfuLoadsWrong)

/-- 'hoardlaw14.TinylfuRemoves': WHATEVER THE INPUT: true; the input reads as it did. -/
def tinylfuRemovesSpec : ChangeSpec := { name := "tinylfuRemoves", fn := fun _ => fun
  | [d1, d2, d3] => { results := [.lit (.bool true)], args := [d1, d2, d3] }
  | _ => none }
def tinylfuRemovesRow : OpenClaim := { program := "ytkeicfajlmhajaagreat", sum := "d1508f14ecbe9dbe6fc72afca5463f4e9ac3410d1dc679cf62d50004d110612f", func := "hoard/hoardlaw14.TinylfuRemoves", spec := "tinylfuRemoves", inPlace := ["internal/abi.NoEscape", "internal/bytealg.MakeNoZero"], apart := false }
def TinylfuRemovesSaid : Prop := tinylfuRemovesRow.holds Tryz.pinned (OpenSpec.ofChange tinylfuRemovesSpec)

/-- ITS FALSE NEIGHBOUR: 'it returns false'. Refute it at one input. -/
def tinylfuRemovesWrong : ChangeSpec := { name := "tinylfuRemoves", fn := fun _ => fun
  | [d1, d2, d3] => { results := [.lit (.bool false)], args := [d1, d2, d3] }
  | _ => none }
def TinylfuRemovesWrongFalsely : Prop := tinylfuRemovesRow.holds Tryz.pinned (OpenSpec.ofChange tinylfuRemovesWrong)

/-- 'hoardlaw14.TinylfuOwn': WHATEVER THE INPUT: true; the input reads as it did. -/
def tinylfuOwnSpec : ChangeSpec := { name := "tinylfuOwn", fn := fun _ => fun
  | [d1, d2] => { results := [.lit (.bool true)], args := [d1, d2] }
  | _ => none }
def tinylfuOwnRow : OpenClaim := { program := "ytkeicfajlmhajaagreat", sum := "d1508f14ecbe9dbe6fc72afca5463f4e9ac3410d1dc679cf62d50004d110612f", func := "hoard/hoardlaw14.TinylfuOwn", spec := "tinylfuOwn", inPlace := ["internal/abi.NoEscape", "internal/bytealg.MakeNoZero"], apart := false }
def TinylfuOwnSaid : Prop := tinylfuOwnRow.holds Tryz.pinned (OpenSpec.ofChange tinylfuOwnSpec)

/-- ITS FALSE NEIGHBOUR: 'it returns false'. Refute it at one input. -/
def tinylfuOwnWrong : ChangeSpec := { name := "tinylfuOwn", fn := fun _ => fun
  | [d1, d2] => { results := [.lit (.bool false)], args := [d1, d2] }
  | _ => none }
def TinylfuOwnWrongFalsely : Prop := tinylfuOwnRow.holds Tryz.pinned (OpenSpec.ofChange tinylfuOwnWrong)

/-- 'hoardlaw14.TinylfuPlays': WHATEVER THE INPUT: true; the input reads as it did. -/
def tinylfuPlaysSpec : ChangeSpec := { name := "tinylfuPlays", fn := fun _ => fun
  | [d1, d2] => { results := [.lit (.bool true)], args := [d1, d2] }
  | _ => none }
def tinylfuPlaysRow : OpenClaim := { program := "ytkeicfajlmhajaagreat", sum := "d1508f14ecbe9dbe6fc72afca5463f4e9ac3410d1dc679cf62d50004d110612f", func := "hoard/hoardlaw14.TinylfuPlays", spec := "tinylfuPlays", inPlace := ["internal/abi.NoEscape", "internal/bytealg.MakeNoZero"], apart := false }
def TinylfuPlaysSaid : Prop := tinylfuPlaysRow.holds Tryz.pinned (OpenSpec.ofChange tinylfuPlaysSpec)

/-- ITS FALSE NEIGHBOUR: 'it returns false'. Refute it at one input. -/
def tinylfuPlaysWrong : ChangeSpec := { name := "tinylfuPlays", fn := fun _ => fun
  | [d1, d2] => { results := [.lit (.bool false)], args := [d1, d2] }
  | _ => none }
def TinylfuPlaysWrongFalsely : Prop := tinylfuPlaysRow.holds Tryz.pinned (OpenSpec.ofChange tinylfuPlaysWrong)

/-- 'hoardlaw14.TinylfuBounds': WHATEVER THE INPUT: true; the input reads as it did. -/
def tinylfuBoundsSpec : ChangeSpec := { name := "tinylfuBounds", fn := fun _ => fun
  | [d1, d2] => { results := [.lit (.bool true)], args := [d1, d2] }
  | _ => none }
def tinylfuBoundsRow : OpenClaim := { program := "ytkeicfajlmhajaagreat", sum := "d1508f14ecbe9dbe6fc72afca5463f4e9ac3410d1dc679cf62d50004d110612f", func := "hoard/hoardlaw14.TinylfuBounds", spec := "tinylfuBounds", inPlace := ["internal/abi.NoEscape", "internal/bytealg.MakeNoZero"], apart := false }
def TinylfuBoundsSaid : Prop := tinylfuBoundsRow.holds Tryz.pinned (OpenSpec.ofChange tinylfuBoundsSpec)

/-- ITS FALSE NEIGHBOUR: 'it returns false'. Refute it at one input. -/
def tinylfuBoundsWrong : ChangeSpec := { name := "tinylfuBounds", fn := fun _ => fun
  | [d1, d2] => { results := [.lit (.bool false)], args := [d1, d2] }
  | _ => none }
def TinylfuBoundsWrongFalsely : Prop := tinylfuBoundsRow.holds Tryz.pinned (OpenSpec.ofChange tinylfuBoundsWrong)

/- THE SECOND FORM. 'bulk': how many values and letters a reading holds, each counted each time it is reached (what is shared counts as often as it is met; a slice's spare places count too). A statement '..UptoSaid' is the law's where the arguments, and the package variables that the reading takes, are together of bulk at most 1048576: NARROWER than '..Said'. Prove '..Said' where nothing that the law and all that it calls make is longer than what came in: it says more and counts as full. Else prove '..UptoSaid'. A law counts once. -/
mutual
def uptoBulk {H : Type} : DataW H → Nat
  | .lit (.string bytes) => bytes.length + 1
  | .lit _ => 1
  | .nil => 1
  | .ptr d => uptoBulk d + 1
  | .slice elems spare => uptoBulkAll elems + uptoBulkAll spare + 1
  | .agg parts => uptoBulkAll parts + 1
  | .iface _ d => uptoBulk d + 1
  | .map entries => uptoBulkEntries entries + 1
  | .held _ => 1
def uptoBulkAll {H : Type} : List (DataW H) → Nat
  | [] => 0
  | d :: r => uptoBulk d + uptoBulkAll r
def uptoBulkEntries {H : Type} : List (Lit × DataW H) → Nat
  | [] => 0
  | x :: r => uptoBulkEntry x + uptoBulkEntries r
def uptoBulkEntry {H : Type} : Lit × DataW H → Nat
  | (.string bytes, d) => bytes.length + uptoBulk d + 1
  | (_, d) => uptoBulk d + 1
 end
def uptoSmall : (H : Type) → List (DataW H) → Bool := fun _ ds => decide (uptoBulkAll ds ≤ 1048576)
def OpenSpec.upto (s : _root_.Go.ChangeSpec) : _root_.Go.OpenSpec := { _root_.Go.OpenSpec.ofChange s with cond := some uptoSmall }

/-- 'hoardlaw14.TinylfuOften', WHERE WHAT IT READS IS OF BULK AT MOST 1048576: true; the input reads as it did. -/
def tinylfuOftenUptoRow : OpenClaim := { program := "ytkeicfajlmhajaagreat", sum := "d1508f14ecbe9dbe6fc72afca5463f4e9ac3410d1dc679cf62d50004d110612f", func := "hoard/hoardlaw14.TinylfuOften", spec := "tinylfuOften", inPlace := ["internal/abi.NoEscape", "internal/bytealg.MakeNoZero"], apart := false, narrowed := true }
def TinylfuOftenUptoSaid : Prop := tinylfuOftenUptoRow.holds Tryz.pinned (OpenSpec.upto tinylfuOftenSpec)

/-- 'hoardlaw14.TinylfuEmpties', WHERE WHAT IT READS IS OF BULK AT MOST 1048576: true; the input reads as it did. -/
def tinylfuEmptiesUptoRow : OpenClaim := { program := "ytkeicfajlmhajaagreat", sum := "d1508f14ecbe9dbe6fc72afca5463f4e9ac3410d1dc679cf62d50004d110612f", func := "hoard/hoardlaw14.TinylfuEmpties", spec := "tinylfuEmpties", inPlace := ["internal/abi.NoEscape", "internal/bytealg.MakeNoZero"], apart := false, narrowed := true }
def TinylfuEmptiesUptoSaid : Prop := tinylfuEmptiesUptoRow.holds Tryz.pinned (OpenSpec.upto tinylfuEmptiesSpec)

/-- 'hoardlaw14.TinylfuLoads', WHERE WHAT IT READS IS OF BULK AT MOST 1048576: true; the input reads as it did. -/
def tinylfuLoadsUptoRow : OpenClaim := { program := "ytkeicfajlmhajaagreat", sum := "d1508f14ecbe9dbe6fc72afca5463f4e9ac3410d1dc679cf62d50004d110612f", func := "hoard/hoardlaw14.TinylfuLoads", spec := "tinylfuLoads", inPlace := ["internal/abi.NoEscape", "internal/bytealg.MakeNoZero"], apart := false, narrowed := true }
def TinylfuLoadsUptoSaid : Prop := tinylfuLoadsUptoRow.holds Tryz.pinned (OpenSpec.upto tinylfuLoadsSpec)

/-- 'hoardlaw14.TinylfuRemoves', WHERE WHAT IT READS IS OF BULK AT MOST 1048576: true; the input reads as it did. -/
def tinylfuRemovesUptoRow : OpenClaim := { program := "ytkeicfajlmhajaagreat", sum := "d1508f14ecbe9dbe6fc72afca5463f4e9ac3410d1dc679cf62d50004d110612f", func := "hoard/hoardlaw14.TinylfuRemoves", spec := "tinylfuRemoves", inPlace := ["internal/abi.NoEscape", "internal/bytealg.MakeNoZero"], apart := false, narrowed := true }
def TinylfuRemovesUptoSaid : Prop := tinylfuRemovesUptoRow.holds Tryz.pinned (OpenSpec.upto tinylfuRemovesSpec)

/-- 'hoardlaw14.TinylfuOwn', WHERE WHAT IT READS IS OF BULK AT MOST 1048576: true; the input reads as it did. -/
def tinylfuOwnUptoRow : OpenClaim := { program := "ytkeicfajlmhajaagreat", sum := "d1508f14ecbe9dbe6fc72afca5463f4e9ac3410d1dc679cf62d50004d110612f", func := "hoard/hoardlaw14.TinylfuOwn", spec := "tinylfuOwn", inPlace := ["internal/abi.NoEscape", "internal/bytealg.MakeNoZero"], apart := false, narrowed := true }
def TinylfuOwnUptoSaid : Prop := tinylfuOwnUptoRow.holds Tryz.pinned (OpenSpec.upto tinylfuOwnSpec)

/-- 'hoardlaw14.TinylfuPlays', WHERE WHAT IT READS IS OF BULK AT MOST 1048576: true; the input reads as it did. -/
def tinylfuPlaysUptoRow : OpenClaim := { program := "ytkeicfajlmhajaagreat", sum := "d1508f14ecbe9dbe6fc72afca5463f4e9ac3410d1dc679cf62d50004d110612f", func := "hoard/hoardlaw14.TinylfuPlays", spec := "tinylfuPlays", inPlace := ["internal/abi.NoEscape", "internal/bytealg.MakeNoZero"], apart := false, narrowed := true }
def TinylfuPlaysUptoSaid : Prop := tinylfuPlaysUptoRow.holds Tryz.pinned (OpenSpec.upto tinylfuPlaysSpec)

/-- 'hoardlaw14.TinylfuBounds', WHERE WHAT IT READS IS OF BULK AT MOST 1048576: true; the input reads as it did. -/
def tinylfuBoundsUptoRow : OpenClaim := { program := "ytkeicfajlmhajaagreat", sum := "d1508f14ecbe9dbe6fc72afca5463f4e9ac3410d1dc679cf62d50004d110612f", func := "hoard/hoardlaw14.TinylfuBounds", spec := "tinylfuBounds", inPlace := ["internal/abi.NoEscape", "internal/bytealg.MakeNoZero"], apart := false, narrowed := true }
def TinylfuBoundsUptoSaid : Prop := tinylfuBoundsUptoRow.holds Tryz.pinned (OpenSpec.upto tinylfuBoundsSpec)

end Rows
end Go.Proofs.YtkeicfajlmhajaaGreat
