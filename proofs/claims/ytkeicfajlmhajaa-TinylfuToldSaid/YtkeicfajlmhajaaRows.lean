/-
  No cell of these rows narrows 'for every input' (looked for: loops, veiled, ifaces, maps, wideKeys, modest, calm, conditions, laid).
  DERIVED. THE GIVEN ROWS OF THIS SEAT. 5 by the template 'for every input the law returns true; each argument reads behind the call as it read before'; 0 by the template 'total and deterministic' (their statements: YtkeicfajlmhajaaTotals.lean).
  GIVEN WITH THE SEED: the statements are not yours to turn. If you find one false, say at which input.
  Laid BY PROGRAM, IN A SANDBOX (cutbox-rows.mjs): the forced cells as the released guide's own fill.sh prints them over the translation 630dbcfb9e5cab19… (all of the seat's roots in one cut). By AI agents, Wed Nov 11 2026. No macro, syntax, notation, axiom, sorry.
-/
import Derived.Test.YtkeicfajlmhajaaChecked
import GoSem.Claim
import GoSem.ClaimJoined
import GoSem.ClaimMapViews
import Derived.JoinedTies
import Derived.KernelRfl
namespace Go.Proofs.Ytkeicfajlmhajaa
/- THE CELL 'sum', in the pinned program and in every row, IS THE sha256 OF THE DUMP (.gsa) THAT YtkeicfajlmhajaaProg.lean LOADS. Nothing in Lean hashes anything: it is a label: what it is worth is what the hold of that sum in a sandbox is worth. -/
noncomputable def Try.pinned : Pinned := { name := "ytkeicfajlmhajaa", sum := "630dbcfb9e5cab198ec61d68527d8f849fd99419bb8b40cdf483cb5a6b203037", checked := Try.checked }
namespace Rows
def none {H : Type} : Left H := { results := [], args := [] }

/-- 'hoardlaw14.TinylfuFits': WHATEVER THE INPUT: true; the input reads as it did. -/
def tinylfuFitsSpec : ChangeSpec := { name := "tinylfuFits", fn := fun _ => fun
  | [d1, d2] => { results := [.lit (.bool true)], args := [d1, d2] }
  | _ => none }
def tinylfuFitsRow : OpenClaim := { program := "ytkeicfajlmhajaa", sum := "630dbcfb9e5cab198ec61d68527d8f849fd99419bb8b40cdf483cb5a6b203037", func := "hoard/hoardlaw14.TinylfuFits", spec := "tinylfuFits", inPlace := ["internal/abi.NoEscape", "internal/bytealg.MakeNoZero"], apart := false }
def TinylfuFitsSaid : Prop := tinylfuFitsRow.holds Try.pinned (OpenSpec.ofChange tinylfuFitsSpec)

/-- ITS FALSE NEIGHBOUR: 'it returns false'. Refute it at one input. -/
def tinylfuFitsWrong : ChangeSpec := { name := "tinylfuFits", fn := fun _ => fun
  | [d1, d2] => { results := [.lit (.bool false)], args := [d1, d2] }
  | _ => none }
def TinylfuFitsWrongFalsely : Prop := tinylfuFitsRow.holds Try.pinned (OpenSpec.ofChange tinylfuFitsWrong)

/-- 'hoardlaw14.TinylfuOne': WHATEVER THE INPUT: true; the input reads as it did. -/
def tinylfuOneSpec : ChangeSpec := { name := "tinylfuOne", fn := fun _ => fun
  | [d] => { results := [.lit (.bool true)], args := [d] }
  | _ => none }
def tinylfuOneRow : OpenClaim := { program := "ytkeicfajlmhajaa", sum := "630dbcfb9e5cab198ec61d68527d8f849fd99419bb8b40cdf483cb5a6b203037", func := "hoard/hoardlaw14.TinylfuOne", spec := "tinylfuOne", inPlace := ["internal/abi.NoEscape", "internal/bytealg.MakeNoZero"], apart := false }
def TinylfuOneSaid : Prop := tinylfuOneRow.holds Try.pinned (OpenSpec.ofChange tinylfuOneSpec)

/-- ITS FALSE NEIGHBOUR: 'it returns false'. Refute it at one input. -/
def tinylfuOneWrong : ChangeSpec := { name := "tinylfuOne", fn := fun _ => fun
  | [d] => { results := [.lit (.bool false)], args := [d] }
  | _ => none }
def TinylfuOneWrongFalsely : Prop := tinylfuOneRow.holds Try.pinned (OpenSpec.ofChange tinylfuOneWrong)

/-- 'hoardlaw14.TinylfuCounts': WHATEVER THE INPUT: true; the input reads as it did. -/
def tinylfuCountsSpec : ChangeSpec := { name := "tinylfuCounts", fn := fun _ => fun
  | [d1, d2] => { results := [.lit (.bool true)], args := [d1, d2] }
  | _ => none }
def tinylfuCountsRow : OpenClaim := { program := "ytkeicfajlmhajaa", sum := "630dbcfb9e5cab198ec61d68527d8f849fd99419bb8b40cdf483cb5a6b203037", func := "hoard/hoardlaw14.TinylfuCounts", spec := "tinylfuCounts", inPlace := ["internal/abi.NoEscape", "internal/bytealg.MakeNoZero"], apart := false }
def TinylfuCountsSaid : Prop := tinylfuCountsRow.holds Try.pinned (OpenSpec.ofChange tinylfuCountsSpec)

/-- ITS FALSE NEIGHBOUR: 'it returns false'. Refute it at one input. -/
def tinylfuCountsWrong : ChangeSpec := { name := "tinylfuCounts", fn := fun _ => fun
  | [d1, d2] => { results := [.lit (.bool false)], args := [d1, d2] }
  | _ => none }
def TinylfuCountsWrongFalsely : Prop := tinylfuCountsRow.holds Try.pinned (OpenSpec.ofChange tinylfuCountsWrong)

/-- 'hoardlaw14.TinylfuTold': WHATEVER THE INPUT: true; the input reads as it did. -/
def tinylfuToldSpec : ChangeSpec := { name := "tinylfuTold", fn := fun _ => fun
  | [d1, d2] => { results := [.lit (.bool true)], args := [d1, d2] }
  | _ => none }
def tinylfuToldRow : OpenClaim := { program := "ytkeicfajlmhajaa", sum := "630dbcfb9e5cab198ec61d68527d8f849fd99419bb8b40cdf483cb5a6b203037", func := "hoard/hoardlaw14.TinylfuTold", spec := "tinylfuTold", inPlace := ["internal/abi.NoEscape", "internal/bytealg.MakeNoZero"], apart := false }
def TinylfuToldSaid : Prop := tinylfuToldRow.holds Try.pinned (OpenSpec.ofChange tinylfuToldSpec)

/-- ITS FALSE NEIGHBOUR: 'it returns false'. Refute it at one input. -/
def tinylfuToldWrong : ChangeSpec := { name := "tinylfuTold", fn := fun _ => fun
  | [d1, d2] => { results := [.lit (.bool false)], args := [d1, d2] }
  | _ => none }
def TinylfuToldWrongFalsely : Prop := tinylfuToldRow.holds Try.pinned (OpenSpec.ofChange tinylfuToldWrong)

/-- 'hoardlaw14.TinylfuOfNothing': WHATEVER THE INPUT: true; the input reads as it did. -/
def tinylfuOfNothingSpec : ChangeSpec := { name := "tinylfuOfNothing", fn := fun _ => fun
  | [d] => { results := [.lit (.bool true)], args := [d] }
  | _ => none }
def tinylfuOfNothingRow : OpenClaim := { program := "ytkeicfajlmhajaa", sum := "630dbcfb9e5cab198ec61d68527d8f849fd99419bb8b40cdf483cb5a6b203037", func := "hoard/hoardlaw14.TinylfuOfNothing", spec := "tinylfuOfNothing", inPlace := ["internal/abi.NoEscape", "internal/bytealg.MakeNoZero"], apart := false }
def TinylfuOfNothingSaid : Prop := tinylfuOfNothingRow.holds Try.pinned (OpenSpec.ofChange tinylfuOfNothingSpec)

/-- ITS FALSE NEIGHBOUR: 'it returns false'. Refute it at one input. -/
def tinylfuOfNothingWrong : ChangeSpec := { name := "tinylfuOfNothing", fn := fun _ => fun
  | [d] => { results := [.lit (.bool false)], args := [d] }
  | _ => none }
def TinylfuOfNothingWrongFalsely : Prop := tinylfuOfNothingRow.holds Try.pinned (OpenSpec.ofChange tinylfuOfNothingWrong)

/- THE SECOND FORM. 'bulk': how many values and letters a reading holds, each counted each time it is reached (what is shared counts as often as it is met; a slice's spare places count too). A statement '..UptoSaid' is the law's where the arguments, and the package variables that the reading takes, are together of bulk at most 1048576: NARROWER than '..Said'. Prove '..Said' where nothing that the law and all that it calls make is longer than what came in: it says more and counts as full. Else prove '..UptoSaid'. A law counts once. -/
mutual
def uptoBulk {H : Type} : DataW H → Nat
  | .lit (.string bytes) => bytes.length + 1
  | .lit _ => 1
  | .nil => 1
  | .ptr d => uptoBulk d + 1
  | .slice elems spare => uptoBulkAll elems + uptoBulkAll spare + 1
  | .agg parts => uptoBulkAll parts + 1
  | .iface _ d => uptoBulk d + 1
  | .map entries => uptoBulkEntries entries + 1
  | .held _ => 1
def uptoBulkAll {H : Type} : List (DataW H) → Nat
  | [] => 0
  | d :: r => uptoBulk d + uptoBulkAll r
def uptoBulkEntries {H : Type} : List (Lit × DataW H) → Nat
  | [] => 0
  | x :: r => uptoBulkEntry x + uptoBulkEntries r
def uptoBulkEntry {H : Type} : Lit × DataW H → Nat
  | (.string bytes, d) => bytes.length + uptoBulk d + 1
  | (_, d) => uptoBulk d + 1
 end
def uptoSmall : (H : Type) → List (DataW H) → Bool := fun _ ds => decide (uptoBulkAll ds ≤ 1048576)
def OpenSpec.upto (s : _root_.Go.ChangeSpec) : _root_.Go.OpenSpec := { _root_.Go.OpenSpec.ofChange s with cond := some uptoSmall }

/-- 'hoardlaw14.TinylfuFits', WHERE WHAT IT READS IS OF BULK AT MOST 1048576: true; the input reads as it did. -/
def tinylfuFitsUptoRow : OpenClaim := { program := "ytkeicfajlmhajaa", sum := "630dbcfb9e5cab198ec61d68527d8f849fd99419bb8b40cdf483cb5a6b203037", func := "hoard/hoardlaw14.TinylfuFits", spec := "tinylfuFits", inPlace := ["internal/abi.NoEscape", "internal/bytealg.MakeNoZero"], apart := false, narrowed := true }
def TinylfuFitsUptoSaid : Prop := tinylfuFitsUptoRow.holds Try.pinned (OpenSpec.upto tinylfuFitsSpec)

/-- 'hoardlaw14.TinylfuOne', WHERE WHAT IT READS IS OF BULK AT MOST 1048576: true; the input reads as it did. -/
def tinylfuOneUptoRow : OpenClaim := { program := "ytkeicfajlmhajaa", sum := "630dbcfb9e5cab198ec61d68527d8f849fd99419bb8b40cdf483cb5a6b203037", func := "hoard/hoardlaw14.TinylfuOne", spec := "tinylfuOne", inPlace := ["internal/abi.NoEscape", "internal/bytealg.MakeNoZero"], apart := false, narrowed := true }
def TinylfuOneUptoSaid : Prop := tinylfuOneUptoRow.holds Try.pinned (OpenSpec.upto tinylfuOneSpec)

/-- 'hoardlaw14.TinylfuCounts', WHERE WHAT IT READS IS OF BULK AT MOST 1048576: true; the input reads as it did. -/
def tinylfuCountsUptoRow : OpenClaim := { program := "ytkeicfajlmhajaa", sum := "630dbcfb9e5cab198ec61d68527d8f849fd99419bb8b40cdf483cb5a6b203037", func := "hoard/hoardlaw14.TinylfuCounts", spec := "tinylfuCounts", inPlace := ["internal/abi.NoEscape", "internal/bytealg.MakeNoZero"], apart := false, narrowed := true }
def TinylfuCountsUptoSaid : Prop := tinylfuCountsUptoRow.holds Try.pinned (OpenSpec.upto tinylfuCountsSpec)

/-- 'hoardlaw14.TinylfuTold', WHERE WHAT IT READS IS OF BULK AT MOST 1048576: true; the input reads as it did. -/
def tinylfuToldUptoRow : OpenClaim := { program := "ytkeicfajlmhajaa", sum := "630dbcfb9e5cab198ec61d68527d8f849fd99419bb8b40cdf483cb5a6b203037", func := "hoard/hoardlaw14.TinylfuTold", spec := "tinylfuTold", inPlace := ["internal/abi.NoEscape", "internal/bytealg.MakeNoZero"], apart := false, narrowed := true }
def TinylfuToldUptoSaid : Prop := tinylfuToldUptoRow.holds Try.pinned (OpenSpec.upto tinylfuToldSpec)

/-- 'hoardlaw14.TinylfuOfNothing', WHERE WHAT IT READS IS OF BULK AT MOST 1048576: true; the input reads as it did. -/
def tinylfuOfNothingUptoRow : OpenClaim := { program := "ytkeicfajlmhajaa", sum := "630dbcfb9e5cab198ec61d68527d8f849fd99419bb8b40cdf483cb5a6b203037", func := "hoard/hoardlaw14.TinylfuOfNothing", spec := "tinylfuOfNothing", inPlace := ["internal/abi.NoEscape", "internal/bytealg.MakeNoZero"], apart := false, narrowed := true }
def TinylfuOfNothingUptoSaid : Prop := tinylfuOfNothingUptoRow.holds Try.pinned (OpenSpec.upto tinylfuOfNothingSpec)

end Rows
end Go.Proofs.Ytkeicfajlmhajaa
