/-
  No cell of these rows narrows 'for every input' (looked for: loops, veiled, ifaces, maps, wideKeys, modest, calm, conditions, laid).
  DERIVED. THE GIVEN ROWS OF THIS SEAT. 5 by the template 'for every input the law returns true; each argument reads behind the call as it read before'; 0 by the template 'total and deterministic' (their statements: YtlnpjcamcefbkaaTotals.lean).
  GIVEN WITH THE SEED: the statements are not yours to turn. If you find one false, say at which input.
  Laid BY PROGRAM, IN A SANDBOX (cutbox-rows.mjs): the forced cells as the released guide's own fill.sh prints them over the translation 9e04ad03416ea0dc… (all of the seat's roots in one cut). By AI agents, Wed Nov 11 2026. No macro, syntax, notation, axiom, sorry.
-/
import Derived.Test.YtlnpjcamcefbkaaChecked
import GoSem.Claim
import GoSem.ClaimJoined
import GoSem.ClaimMapViews
import Derived.JoinedTies
import Derived.KernelRfl
namespace Go.Proofs.Ytlnpjcamcefbkaa
/- THE CELL 'sum', in the pinned program and in every row, IS THE sha256 OF THE DUMP (.gsa) THAT YtlnpjcamcefbkaaProg.lean LOADS. Nothing in Lean hashes anything: it is a label: what it is worth is what the hold of that sum in a sandbox is worth. -/
noncomputable def Try.pinned : Pinned := { name := "ytlnpjcamcefbkaa", sum := "9e04ad03416ea0dc26d70a18ffcc624454212cb6ea9ee85146c7486b86306ad9", checked := Try.checked }
namespace Rows
def none {H : Type} : Left H := { results := [], args := [] }

/-- 'hoardlaw25.RouteOrders': WHATEVER THE INPUT: true; the input reads as it did. -/
def routeOrdersSpec : ChangeSpec := { name := "routeOrders", fn := fun _ => fun
  | [d1, d2] => { results := [.lit (.bool true)], args := [d1, d2] }
  | _ => none }
def routeOrdersRow : OpenClaim := { program := "ytlnpjcamcefbkaa", sum := "9e04ad03416ea0dc26d70a18ffcc624454212cb6ea9ee85146c7486b86306ad9", func := "hoard/hoardlaw25.RouteOrders", spec := "routeOrders", apart := false }
def RouteOrdersSaid : Prop := routeOrdersRow.holds Try.pinned (OpenSpec.ofChange routeOrdersSpec)

/-- ITS FALSE NEIGHBOUR: 'it returns false'. Refute it at one input. -/
def routeOrdersWrong : ChangeSpec := { name := "routeOrders", fn := fun _ => fun
  | [d1, d2] => { results := [.lit (.bool false)], args := [d1, d2] }
  | _ => none }
def RouteOrdersWrongFalsely : Prop := routeOrdersRow.holds Try.pinned (OpenSpec.ofChange routeOrdersWrong)

/-- 'hoardlaw25.RouteAll': WHATEVER THE INPUT: true; the input reads as it did. -/
def routeAllSpec : ChangeSpec := { name := "routeAll", fn := fun _ => fun
  | [d1, d2] => { results := [.lit (.bool true)], args := [d1, d2] }
  | _ => none }
def routeAllRow : OpenClaim := { program := "ytlnpjcamcefbkaa", sum := "9e04ad03416ea0dc26d70a18ffcc624454212cb6ea9ee85146c7486b86306ad9", func := "hoard/hoardlaw25.RouteAll", spec := "routeAll", apart := false }
def RouteAllSaid : Prop := routeAllRow.holds Try.pinned (OpenSpec.ofChange routeAllSpec)

/-- ITS FALSE NEIGHBOUR: 'it returns false'. Refute it at one input. -/
def routeAllWrong : ChangeSpec := { name := "routeAll", fn := fun _ => fun
  | [d1, d2] => { results := [.lit (.bool false)], args := [d1, d2] }
  | _ => none }
def RouteAllWrongFalsely : Prop := routeAllRow.holds Try.pinned (OpenSpec.ofChange routeAllWrong)

/-- 'hoardlaw25.RouteMany': WHATEVER THE INPUT: true; the input reads as it did. -/
def routeManySpec : ChangeSpec := { name := "routeMany", fn := fun _ => fun
  | [d] => { results := [.lit (.bool true)], args := [d] }
  | _ => none }
def routeManyRow : OpenClaim := { program := "ytlnpjcamcefbkaa", sum := "9e04ad03416ea0dc26d70a18ffcc624454212cb6ea9ee85146c7486b86306ad9", func := "hoard/hoardlaw25.RouteMany", spec := "routeMany", apart := false }
def RouteManySaid : Prop := routeManyRow.holds Try.pinned (OpenSpec.ofChange routeManySpec)

/-- ITS FALSE NEIGHBOUR: 'it returns false'. Refute it at one input. -/
def routeManyWrong : ChangeSpec := { name := "routeMany", fn := fun _ => fun
  | [d] => { results := [.lit (.bool false)], args := [d] }
  | _ => none }
def RouteManyWrongFalsely : Prop := routeManyRow.holds Try.pinned (OpenSpec.ofChange routeManyWrong)

/-- 'hoardlaw25.RouteMerges': WHATEVER THE INPUT: true; the input reads as it did. -/
def routeMergesSpec : ChangeSpec := { name := "routeMerges", fn := fun _ => fun
  | [d1, d2, d3] => { results := [.lit (.bool true)], args := [d1, d2, d3] }
  | _ => none }
def routeMergesRow : OpenClaim := { program := "ytlnpjcamcefbkaa", sum := "9e04ad03416ea0dc26d70a18ffcc624454212cb6ea9ee85146c7486b86306ad9", func := "hoard/hoardlaw25.RouteMerges", spec := "routeMerges", apart := false }
def RouteMergesSaid : Prop := routeMergesRow.holds Try.pinned (OpenSpec.ofChange routeMergesSpec)

/-- ITS FALSE NEIGHBOUR: 'it returns false'. Refute it at one input. -/
def routeMergesWrong : ChangeSpec := { name := "routeMerges", fn := fun _ => fun
  | [d1, d2, d3] => { results := [.lit (.bool false)], args := [d1, d2, d3] }
  | _ => none }
def RouteMergesWrongFalsely : Prop := routeMergesRow.holds Try.pinned (OpenSpec.ofChange routeMergesWrong)

/-- 'hoardlaw25.RouteShards': WHATEVER THE INPUT: true; the input reads as it did. -/
def routeShardsSpec : ChangeSpec := { name := "routeShards", fn := fun _ => fun
  | [d1, d2] => { results := [.lit (.bool true)], args := [d1, d2] }
  | _ => none }
def routeShardsRow : OpenClaim := { program := "ytlnpjcamcefbkaa", sum := "9e04ad03416ea0dc26d70a18ffcc624454212cb6ea9ee85146c7486b86306ad9", func := "hoard/hoardlaw25.RouteShards", spec := "routeShards", apart := false }
def RouteShardsSaid : Prop := routeShardsRow.holds Try.pinned (OpenSpec.ofChange routeShardsSpec)

/-- ITS FALSE NEIGHBOUR: 'it returns false'. Refute it at one input. -/
def routeShardsWrong : ChangeSpec := { name := "routeShards", fn := fun _ => fun
  | [d1, d2] => { results := [.lit (.bool false)], args := [d1, d2] }
  | _ => none }
def RouteShardsWrongFalsely : Prop := routeShardsRow.holds Try.pinned (OpenSpec.ofChange routeShardsWrong)

/- THE SECOND FORM. 'bulk': how many values and letters a reading holds, each counted each time it is reached (what is shared counts as often as it is met; a slice's spare places count too). A statement '..UptoSaid' is the law's where the arguments, and the package variables that the reading takes, are together of bulk at most 1048576: NARROWER than '..Said'. Prove '..Said' where nothing that the law and all that it calls make is longer than what came in: it says more and counts as full. Else prove '..UptoSaid'. A law counts once. -/
mutual
def uptoBulk {H : Type} : DataW H → Nat
  | .lit (.string bytes) => bytes.length + 1
  | .lit _ => 1
  | .nil => 1
  | .ptr d => uptoBulk d + 1
  | .slice elems spare => uptoBulkAll elems + uptoBulkAll spare + 1
  | .agg parts => uptoBulkAll parts + 1
  | .iface _ d => uptoBulk d + 1
  | .map entries => uptoBulkEntries entries + 1
  | .held _ => 1
def uptoBulkAll {H : Type} : List (DataW H) → Nat
  | [] => 0
  | d :: r => uptoBulk d + uptoBulkAll r
def uptoBulkEntries {H : Type} : List (Lit × DataW H) → Nat
  | [] => 0
  | x :: r => uptoBulkEntry x + uptoBulkEntries r
def uptoBulkEntry {H : Type} : Lit × DataW H → Nat
  | (.string bytes, d) => bytes.length + uptoBulk d + 1
  | (_, d) => uptoBulk d + 1
 end
def uptoSmall : (H : Type) → List (DataW H) → Bool := fun _ ds => decide (uptoBulkAll ds ≤ 1048576)
def OpenSpec.upto (s : _root_.Go.ChangeSpec) : _root_.Go.OpenSpec := { _root_.Go.OpenSpec.ofChange s with cond := some uptoSmall }

/-- 'hoardlaw25.RouteOrders', WHERE WHAT IT READS IS OF BULK AT MOST 1048576: true; the input reads as it did. -/
def routeOrdersUptoRow : OpenClaim := { program := "ytlnpjcamcefbkaa", sum := "9e04ad03416ea0dc26d70a18ffcc624454212cb6ea9ee85146c7486b86306ad9", func := "hoard/hoardlaw25.RouteOrders", spec := "routeOrders", apart := false, narrowed := true }
def RouteOrdersUptoSaid : Prop := routeOrdersUptoRow.holds Try.pinned (OpenSpec.upto routeOrdersSpec)

/-- 'hoardlaw25.RouteAll', WHERE WHAT IT READS IS OF BULK AT MOST 1048576: true; the input reads as it did. -/
def routeAllUptoRow : OpenClaim := { program := "ytlnpjcamcefbkaa", sum := "9e04ad03416ea0dc26d70a18ffcc624454212cb6ea9ee85146c7486b86306ad9", func := "hoard/hoardlaw25.RouteAll", spec := "routeAll", apart := false, narrowed := true }
def RouteAllUptoSaid : Prop := routeAllUptoRow.holds Try.pinned (OpenSpec.upto routeAllSpec)

/-- 'hoardlaw25.RouteMany', WHERE WHAT IT READS IS OF BULK AT MOST 1048576: true; the input reads as it did. -/
def routeManyUptoRow : OpenClaim := { program := "ytlnpjcamcefbkaa", sum := "9e04ad03416ea0dc26d70a18ffcc624454212cb6ea9ee85146c7486b86306ad9", func := "hoard/hoardlaw25.RouteMany", spec := "routeMany", apart := false, narrowed := true }
def RouteManyUptoSaid : Prop := routeManyUptoRow.holds Try.pinned (OpenSpec.upto routeManySpec)

/-- 'hoardlaw25.RouteMerges', WHERE WHAT IT READS IS OF BULK AT MOST 1048576: true; the input reads as it did. -/
def routeMergesUptoRow : OpenClaim := { program := "ytlnpjcamcefbkaa", sum := "9e04ad03416ea0dc26d70a18ffcc624454212cb6ea9ee85146c7486b86306ad9", func := "hoard/hoardlaw25.RouteMerges", spec := "routeMerges", apart := false, narrowed := true }
def RouteMergesUptoSaid : Prop := routeMergesUptoRow.holds Try.pinned (OpenSpec.upto routeMergesSpec)

/-- 'hoardlaw25.RouteShards', WHERE WHAT IT READS IS OF BULK AT MOST 1048576: true; the input reads as it did. -/
def routeShardsUptoRow : OpenClaim := { program := "ytlnpjcamcefbkaa", sum := "9e04ad03416ea0dc26d70a18ffcc624454212cb6ea9ee85146c7486b86306ad9", func := "hoard/hoardlaw25.RouteShards", spec := "routeShards", apart := false, narrowed := true }
def RouteShardsUptoSaid : Prop := routeShardsUptoRow.holds Try.pinned (OpenSpec.upto routeShardsSpec)

end Rows
end Go.Proofs.Ytlnpjcamcefbkaa
