/-
  No cell of these rows narrows 'for every input' (looked for: loops, veiled, ifaces, maps, wideKeys, modest, calm, conditions, laid).
  DERIVED. THE GIVEN ROWS OF THIS SEAT. 10 by the template 'for every input the law returns true; each argument reads behind the call as it read before'; 0 by the template 'total and deterministic' (their statements: YtonighgdfcomoaaTotals.lean).
  GIVEN WITH THE SEED: the statements are not yours to turn. If you find one false, say at which input.
  Laid BY PROGRAM, IN A SANDBOX (cutbox-rows.mjs): the forced cells as the released guide's own fill.sh prints them over the translation 5491164e7cdfe8f8… (all of the seat's roots in one cut). By AI agents, Wed Nov 11 2026. No macro, syntax, notation, axiom, sorry.
-/
import Derived.Test.YtonighgdfcomoaaChecked
import GoSem.Claim
import GoSem.ClaimJoined
import GoSem.ClaimMapViews
import Derived.JoinedTies
import Derived.KernelRfl
namespace Go.Proofs.Ytonighgdfcomoaa
/- THE CELL 'sum', in the pinned program and in every row, IS THE sha256 OF THE DUMP (.gsa) THAT YtonighgdfcomoaaProg.lean LOADS. Nothing in Lean hashes anything: it is a label: what it is worth is what the hold of that sum in a sandbox is worth. -/
noncomputable def Try.pinned : Pinned := { name := "ytonighgdfcomoaa", sum := "5491164e7cdfe8f895f5ed798c47268bc28efb98e3902af8fd4554fa454b8910", checked := Try.checked }
namespace Rows
def none {H : Type} : Left H := { results := [], args := [] }

/-- 'hoardlaw9.SampleRooms': WHATEVER THE INPUT: true; the input reads as it did. -/
def sampleRoomsSpec : ChangeSpec := { name := "sampleRooms", fn := fun _ => fun
  | [d1, d2, d3, d4] => { results := [.lit (.bool true)], args := [d1, d2, d3, d4] }
  | _ => none }
def sampleRoomsRow : OpenClaim := { program := "ytonighgdfcomoaa", sum := "5491164e7cdfe8f895f5ed798c47268bc28efb98e3902af8fd4554fa454b8910", func := "hoard/hoardlaw9.SampleRooms", spec := "sampleRooms", apart := false }
def SampleRoomsSaid : Prop := sampleRoomsRow.holds Try.pinned (OpenSpec.ofChange sampleRoomsSpec)

/-- ITS FALSE NEIGHBOUR: 'it returns false'. Refute it at one input. -/
def sampleRoomsWrong : ChangeSpec := { name := "sampleRooms", fn := fun _ => fun
  | [d1, d2, d3, d4] => { results := [.lit (.bool false)], args := [d1, d2, d3, d4] }
  | _ => none }
def SampleRoomsWrongFalsely : Prop := sampleRoomsRow.holds Try.pinned (OpenSpec.ofChange sampleRoomsWrong)

/-- 'hoardlaw1.MixHashes': WHATEVER THE INPUT: true; the input reads as it did. -/
def mixHashesSpec : ChangeSpec := { name := "mixHashes", fn := fun _ => fun
  | [d1, d2] => { results := [.lit (.bool true)], args := [d1, d2] }
  | _ => none }
def mixHashesRow : OpenClaim := { program := "ytonighgdfcomoaa", sum := "5491164e7cdfe8f895f5ed798c47268bc28efb98e3902af8fd4554fa454b8910", func := "hoard/hoardlaw1.MixHashes", spec := "mixHashes", apart := false }
def MixHashesSaid : Prop := mixHashesRow.holds Try.pinned (OpenSpec.ofChange mixHashesSpec)

/-- ITS FALSE NEIGHBOUR: 'it returns false'. Refute it at one input. -/
def mixHashesWrong : ChangeSpec := { name := "mixHashes", fn := fun _ => fun
  | [d1, d2] => { results := [.lit (.bool false)], args := [d1, d2] }
  | _ => none }
def MixHashesWrongFalsely : Prop := mixHashesRow.holds Try.pinned (OpenSpec.ofChange mixHashesWrong)

/-- 'hoardlaw1.MixBack': WHATEVER THE INPUT: true; the input reads as it did. -/
def mixBackSpec : ChangeSpec := { name := "mixBack", fn := fun _ => fun
  | [d] => { results := [.lit (.bool true)], args := [d] }
  | _ => none }
def mixBackRow : OpenClaim := { program := "ytonighgdfcomoaa", sum := "5491164e7cdfe8f895f5ed798c47268bc28efb98e3902af8fd4554fa454b8910", func := "hoard/hoardlaw1.MixBack", spec := "mixBack", apart := false }
def MixBackSaid : Prop := mixBackRow.holds Try.pinned (OpenSpec.ofChange mixBackSpec)

/-- ITS FALSE NEIGHBOUR: 'it returns false'. Refute it at one input. -/
def mixBackWrong : ChangeSpec := { name := "mixBack", fn := fun _ => fun
  | [d] => { results := [.lit (.bool false)], args := [d] }
  | _ => none }
def MixBackWrongFalsely : Prop := mixBackRow.holds Try.pinned (OpenSpec.ofChange mixBackWrong)

/-- 'hoardlaw1.MixPlaces': WHATEVER THE INPUT: true; the input reads as it did. -/
def mixPlacesSpec : ChangeSpec := { name := "mixPlaces", fn := fun _ => fun
  | [d1, d2, d3] => { results := [.lit (.bool true)], args := [d1, d2, d3] }
  | _ => none }
def mixPlacesRow : OpenClaim := { program := "ytonighgdfcomoaa", sum := "5491164e7cdfe8f895f5ed798c47268bc28efb98e3902af8fd4554fa454b8910", func := "hoard/hoardlaw1.MixPlaces", spec := "mixPlaces", apart := false }
def MixPlacesSaid : Prop := mixPlacesRow.holds Try.pinned (OpenSpec.ofChange mixPlacesSpec)

/-- ITS FALSE NEIGHBOUR: 'it returns false'. Refute it at one input. -/
def mixPlacesWrong : ChangeSpec := { name := "mixPlaces", fn := fun _ => fun
  | [d1, d2, d3] => { results := [.lit (.bool false)], args := [d1, d2, d3] }
  | _ => none }
def MixPlacesWrongFalsely : Prop := mixPlacesRow.holds Try.pinned (OpenSpec.ofChange mixPlacesWrong)

/-- 'hoardlaw1.MixMore': WHATEVER THE INPUT: true; the input reads as it did. -/
def mixMoreSpec : ChangeSpec := { name := "mixMore", fn := fun _ => fun
  | [d1, d2, d3] => { results := [.lit (.bool true)], args := [d1, d2, d3] }
  | _ => none }
def mixMoreRow : OpenClaim := { program := "ytonighgdfcomoaa", sum := "5491164e7cdfe8f895f5ed798c47268bc28efb98e3902af8fd4554fa454b8910", func := "hoard/hoardlaw1.MixMore", spec := "mixMore", apart := false }
def MixMoreSaid : Prop := mixMoreRow.holds Try.pinned (OpenSpec.ofChange mixMoreSpec)

/-- ITS FALSE NEIGHBOUR: 'it returns false'. Refute it at one input. -/
def mixMoreWrong : ChangeSpec := { name := "mixMore", fn := fun _ => fun
  | [d1, d2, d3] => { results := [.lit (.bool false)], args := [d1, d2, d3] }
  | _ => none }
def MixMoreWrongFalsely : Prop := mixMoreRow.holds Try.pinned (OpenSpec.ofChange mixMoreWrong)

/-- 'hoardlaw1.MixKeys': WHATEVER THE INPUT: true; the input reads as it did. -/
def mixKeysSpec : ChangeSpec := { name := "mixKeys", fn := fun _ => fun
  | [d] => { results := [.lit (.bool true)], args := [d] }
  | _ => none }
def mixKeysRow : OpenClaim := { program := "ytonighgdfcomoaa", sum := "5491164e7cdfe8f895f5ed798c47268bc28efb98e3902af8fd4554fa454b8910", func := "hoard/hoardlaw1.MixKeys", spec := "mixKeys", inPlace := ["internal/bytealg.IndexByteString"], apart := false }
def MixKeysSaid : Prop := mixKeysRow.holds Try.pinned (OpenSpec.ofChange mixKeysSpec)

/-- ITS FALSE NEIGHBOUR: 'it returns false'. Refute it at one input. -/
def mixKeysWrong : ChangeSpec := { name := "mixKeys", fn := fun _ => fun
  | [d] => { results := [.lit (.bool false)], args := [d] }
  | _ => none }
def MixKeysWrongFalsely : Prop := mixKeysRow.holds Try.pinned (OpenSpec.ofChange mixKeysWrong)

/-- 'hoardlaw9.SampleAlways': WHATEVER THE INPUT: true; the input reads as it did. -/
def sampleAlwaysSpec : ChangeSpec := { name := "sampleAlways", fn := fun _ => fun
  | [d1, d2, d3, d4] => { results := [.lit (.bool true)], args := [d1, d2, d3, d4] }
  | _ => none }
def sampleAlwaysRow : OpenClaim := { program := "ytonighgdfcomoaa", sum := "5491164e7cdfe8f895f5ed798c47268bc28efb98e3902af8fd4554fa454b8910", func := "hoard/hoardlaw9.SampleAlways", spec := "sampleAlways", apart := false }
def SampleAlwaysSaid : Prop := sampleAlwaysRow.holds Try.pinned (OpenSpec.ofChange sampleAlwaysSpec)

/-- ITS FALSE NEIGHBOUR: 'it returns false'. Refute it at one input. -/
def sampleAlwaysWrong : ChangeSpec := { name := "sampleAlways", fn := fun _ => fun
  | [d1, d2, d3, d4] => { results := [.lit (.bool false)], args := [d1, d2, d3, d4] }
  | _ => none }
def SampleAlwaysWrongFalsely : Prop := sampleAlwaysRow.holds Try.pinned (OpenSpec.ofChange sampleAlwaysWrong)

/-- 'hoardlaw9.SampleAll': WHATEVER THE INPUT: true; the input reads as it did. -/
def sampleAllSpec : ChangeSpec := { name := "sampleAll", fn := fun _ => fun
  | [d1, d2] => { results := [.lit (.bool true)], args := [d1, d2] }
  | _ => none }
def sampleAllRow : OpenClaim := { program := "ytonighgdfcomoaa", sum := "5491164e7cdfe8f895f5ed798c47268bc28efb98e3902af8fd4554fa454b8910", func := "hoard/hoardlaw9.SampleAll", spec := "sampleAll", apart := false }
def SampleAllSaid : Prop := sampleAllRow.holds Try.pinned (OpenSpec.ofChange sampleAllSpec)

/-- ITS FALSE NEIGHBOUR: 'it returns false'. Refute it at one input. -/
def sampleAllWrong : ChangeSpec := { name := "sampleAll", fn := fun _ => fun
  | [d1, d2] => { results := [.lit (.bool false)], args := [d1, d2] }
  | _ => none }
def SampleAllWrongFalsely : Prop := sampleAllRow.holds Try.pinned (OpenSpec.ofChange sampleAllWrong)

/-- 'hoardlaw9.SamplePlays': WHATEVER THE INPUT: true; the input reads as it did. -/
def samplePlaysSpec : ChangeSpec := { name := "samplePlays", fn := fun _ => fun
  | [d1, d2, d3] => { results := [.lit (.bool true)], args := [d1, d2, d3] }
  | _ => none }
def samplePlaysRow : OpenClaim := { program := "ytonighgdfcomoaa", sum := "5491164e7cdfe8f895f5ed798c47268bc28efb98e3902af8fd4554fa454b8910", func := "hoard/hoardlaw9.SamplePlays", spec := "samplePlays", apart := false }
def SamplePlaysSaid : Prop := samplePlaysRow.holds Try.pinned (OpenSpec.ofChange samplePlaysSpec)

/-- ITS FALSE NEIGHBOUR: 'it returns false'. Refute it at one input. -/
def samplePlaysWrong : ChangeSpec := { name := "samplePlays", fn := fun _ => fun
  | [d1, d2, d3] => { results := [.lit (.bool false)], args := [d1, d2, d3] }
  | _ => none }
def SamplePlaysWrongFalsely : Prop := samplePlaysRow.holds Try.pinned (OpenSpec.ofChange samplePlaysWrong)

/-- 'hoardlaw9.SampleOfNothing': WHATEVER THE INPUT: true; the input reads as it did. -/
def sampleOfNothingSpec : ChangeSpec := { name := "sampleOfNothing", fn := fun _ => fun
  | [d] => { results := [.lit (.bool true)], args := [d] }
  | _ => none }
def sampleOfNothingRow : OpenClaim := { program := "ytonighgdfcomoaa", sum := "5491164e7cdfe8f895f5ed798c47268bc28efb98e3902af8fd4554fa454b8910", func := "hoard/hoardlaw9.SampleOfNothing", spec := "sampleOfNothing", apart := false }
def SampleOfNothingSaid : Prop := sampleOfNothingRow.holds Try.pinned (OpenSpec.ofChange sampleOfNothingSpec)

/-- ITS FALSE NEIGHBOUR: 'it returns false'. Refute it at one input. -/
def sampleOfNothingWrong : ChangeSpec := { name := "sampleOfNothing", fn := fun _ => fun
  | [d] => { results := [.lit (.bool false)], args := [d] }
  | _ => none }
def SampleOfNothingWrongFalsely : Prop := sampleOfNothingRow.holds Try.pinned (OpenSpec.ofChange sampleOfNothingWrong)

/- THE SECOND FORM. 'bulk': how many values and letters a reading holds, each counted each time it is reached (what is shared counts as often as it is met; a slice's spare places count too). A statement '..UptoSaid' is the law's where the arguments, and the package variables that the reading takes, are together of bulk at most 1048576: NARROWER than '..Said'. Prove '..Said' where nothing that the law and all that it calls make is longer than what came in: it says more and counts as full. Else prove '..UptoSaid'. A law counts once. -/
mutual
def uptoBulk {H : Type} : DataW H → Nat
  | .lit (.string bytes) => bytes.length + 1
  | .lit _ => 1
  | .nil => 1
  | .ptr d => uptoBulk d + 1
  | .slice elems spare => uptoBulkAll elems + uptoBulkAll spare + 1
  | .agg parts => uptoBulkAll parts + 1
  | .iface _ d => uptoBulk d + 1
  | .map entries => uptoBulkEntries entries + 1
  | .held _ => 1
def uptoBulkAll {H : Type} : List (DataW H) → Nat
  | [] => 0
  | d :: r => uptoBulk d + uptoBulkAll r
def uptoBulkEntries {H : Type} : List (Lit × DataW H) → Nat
  | [] => 0
  | x :: r => uptoBulkEntry x + uptoBulkEntries r
def uptoBulkEntry {H : Type} : Lit × DataW H → Nat
  | (.string bytes, d) => bytes.length + uptoBulk d + 1
  | (_, d) => uptoBulk d + 1
 end
def uptoSmall : (H : Type) → List (DataW H) → Bool := fun _ ds => decide (uptoBulkAll ds ≤ 1048576)
def OpenSpec.upto (s : _root_.Go.ChangeSpec) : _root_.Go.OpenSpec := { _root_.Go.OpenSpec.ofChange s with cond := some uptoSmall }

/-- 'hoardlaw9.SampleRooms', WHERE WHAT IT READS IS OF BULK AT MOST 1048576: true; the input reads as it did. -/
def sampleRoomsUptoRow : OpenClaim := { program := "ytonighgdfcomoaa", sum := "5491164e7cdfe8f895f5ed798c47268bc28efb98e3902af8fd4554fa454b8910", func := "hoard/hoardlaw9.SampleRooms", spec := "sampleRooms", apart := false, narrowed := true }
def SampleRoomsUptoSaid : Prop := sampleRoomsUptoRow.holds Try.pinned (OpenSpec.upto sampleRoomsSpec)

/-- 'hoardlaw1.MixHashes', WHERE WHAT IT READS IS OF BULK AT MOST 1048576: true; the input reads as it did. -/
def mixHashesUptoRow : OpenClaim := { program := "ytonighgdfcomoaa", sum := "5491164e7cdfe8f895f5ed798c47268bc28efb98e3902af8fd4554fa454b8910", func := "hoard/hoardlaw1.MixHashes", spec := "mixHashes", apart := false, narrowed := true }
def MixHashesUptoSaid : Prop := mixHashesUptoRow.holds Try.pinned (OpenSpec.upto mixHashesSpec)

/-- 'hoardlaw1.MixBack', WHERE WHAT IT READS IS OF BULK AT MOST 1048576: true; the input reads as it did. -/
def mixBackUptoRow : OpenClaim := { program := "ytonighgdfcomoaa", sum := "5491164e7cdfe8f895f5ed798c47268bc28efb98e3902af8fd4554fa454b8910", func := "hoard/hoardlaw1.MixBack", spec := "mixBack", apart := false, narrowed := true }
def MixBackUptoSaid : Prop := mixBackUptoRow.holds Try.pinned (OpenSpec.upto mixBackSpec)

/-- 'hoardlaw1.MixPlaces', WHERE WHAT IT READS IS OF BULK AT MOST 1048576: true; the input reads as it did. -/
def mixPlacesUptoRow : OpenClaim := { program := "ytonighgdfcomoaa", sum := "5491164e7cdfe8f895f5ed798c47268bc28efb98e3902af8fd4554fa454b8910", func := "hoard/hoardlaw1.MixPlaces", spec := "mixPlaces", apart := false, narrowed := true }
def MixPlacesUptoSaid : Prop := mixPlacesUptoRow.holds Try.pinned (OpenSpec.upto mixPlacesSpec)

/-- 'hoardlaw1.MixMore', WHERE WHAT IT READS IS OF BULK AT MOST 1048576: true; the input reads as it did. -/
def mixMoreUptoRow : OpenClaim := { program := "ytonighgdfcomoaa", sum := "5491164e7cdfe8f895f5ed798c47268bc28efb98e3902af8fd4554fa454b8910", func := "hoard/hoardlaw1.MixMore", spec := "mixMore", apart := false, narrowed := true }
def MixMoreUptoSaid : Prop := mixMoreUptoRow.holds Try.pinned (OpenSpec.upto mixMoreSpec)

/-- 'hoardlaw1.MixKeys', WHERE WHAT IT READS IS OF BULK AT MOST 1048576: true; the input reads as it did. -/
def mixKeysUptoRow : OpenClaim := { program := "ytonighgdfcomoaa", sum := "5491164e7cdfe8f895f5ed798c47268bc28efb98e3902af8fd4554fa454b8910", func := "hoard/hoardlaw1.MixKeys", spec := "mixKeys", inPlace := ["internal/bytealg.IndexByteString"], apart := false, narrowed := true }
def MixKeysUptoSaid : Prop := mixKeysUptoRow.holds Try.pinned (OpenSpec.upto mixKeysSpec)

/-- 'hoardlaw9.SampleAlways', WHERE WHAT IT READS IS OF BULK AT MOST 1048576: true; the input reads as it did. -/
def sampleAlwaysUptoRow : OpenClaim := { program := "ytonighgdfcomoaa", sum := "5491164e7cdfe8f895f5ed798c47268bc28efb98e3902af8fd4554fa454b8910", func := "hoard/hoardlaw9.SampleAlways", spec := "sampleAlways", apart := false, narrowed := true }
def SampleAlwaysUptoSaid : Prop := sampleAlwaysUptoRow.holds Try.pinned (OpenSpec.upto sampleAlwaysSpec)

/-- 'hoardlaw9.SampleAll', WHERE WHAT IT READS IS OF BULK AT MOST 1048576: true; the input reads as it did. -/
def sampleAllUptoRow : OpenClaim := { program := "ytonighgdfcomoaa", sum := "5491164e7cdfe8f895f5ed798c47268bc28efb98e3902af8fd4554fa454b8910", func := "hoard/hoardlaw9.SampleAll", spec := "sampleAll", apart := false, narrowed := true }
def SampleAllUptoSaid : Prop := sampleAllUptoRow.holds Try.pinned (OpenSpec.upto sampleAllSpec)

/-- 'hoardlaw9.SamplePlays', WHERE WHAT IT READS IS OF BULK AT MOST 1048576: true; the input reads as it did. -/
def samplePlaysUptoRow : OpenClaim := { program := "ytonighgdfcomoaa", sum := "5491164e7cdfe8f895f5ed798c47268bc28efb98e3902af8fd4554fa454b8910", func := "hoard/hoardlaw9.SamplePlays", spec := "samplePlays", apart := false, narrowed := true }
def SamplePlaysUptoSaid : Prop := samplePlaysUptoRow.holds Try.pinned (OpenSpec.upto samplePlaysSpec)

/-- 'hoardlaw9.SampleOfNothing', WHERE WHAT IT READS IS OF BULK AT MOST 1048576: true; the input reads as it did. -/
def sampleOfNothingUptoRow : OpenClaim := { program := "ytonighgdfcomoaa", sum := "5491164e7cdfe8f895f5ed798c47268bc28efb98e3902af8fd4554fa454b8910", func := "hoard/hoardlaw9.SampleOfNothing", spec := "sampleOfNothing", apart := false, narrowed := true }
def SampleOfNothingUptoSaid : Prop := sampleOfNothingUptoRow.holds Try.pinned (OpenSpec.upto sampleOfNothingSpec)

end Rows
end Go.Proofs.Ytonighgdfcomoaa
