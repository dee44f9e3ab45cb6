/-
  No cell of these rows narrows 'for every input' (looked for: loops, veiled, ifaces, maps, wideKeys, modest, calm, conditions, laid).
  DERIVED. THE GIVEN ROWS OF THIS SEAT. 8 by the template 'for every input the law returns true; each argument reads behind the call as it read before'; 0 by the template 'total and deterministic' (their statements: YtknddadgmbkpnaaTotals.lean).
  GIVEN WITH THE SEED: the statements are not yours to turn. If you find one false, say at which input.
  Laid BY PROGRAM, IN A SANDBOX (cutbox-rows.mjs): the forced cells as the released guide's own fill.sh prints them over the translation 31a12e208542ac24… (all of the seat's roots in one cut). By AI agents, Wed Nov 11 2026. No macro, syntax, notation, axiom, sorry.
-/
import Derived.Test.YtknddadgmbkpnaaChecked
import GoSem.Claim
import GoSem.ClaimJoined
import GoSem.ClaimMapViews
import Derived.JoinedTies
import Derived.KernelRfl
namespace Go.Proofs.Ytknddadgmbkpnaa
/- THE CELL 'sum', in the pinned program and in every row, IS THE sha256 OF THE DUMP (.gsa) THAT YtknddadgmbkpnaaProg.lean LOADS. Nothing in Lean hashes anything: it is a label: what it is worth is what the hold of that sum in a sandbox is worth. -/
noncomputable def Try.pinned : Pinned := { name := "ytknddadgmbkpnaa", sum := "31a12e208542ac2463ddd36e2e08f72bbd6d75c9ed6d43d90bf0611f5b7ae349", checked := Try.checked }
namespace Rows
def none {H : Type} : Left H := { results := [], args := [] }

/-- 'laws.FnExactWorstLoad': WHATEVER THE INPUT: true; the input reads as it did. -/
def fnExactWorstLoadSpec : ChangeSpec := { name := "fnExactWorstLoad", fn := fun _ => fun
  | [d1, d2] => { results := [.lit (.bool true)], args := [d1, d2] }
  | _ => none }
def fnExactWorstLoadRow : OpenClaim := { program := "ytknddadgmbkpnaa", sum := "31a12e208542ac2463ddd36e2e08f72bbd6d75c9ed6d43d90bf0611f5b7ae349", func := "loop.example/liftsandlights/laws.FnExactWorstLoad", spec := "fnExactWorstLoad", apart := false }
def FnExactWorstLoadSaid : Prop := fnExactWorstLoadRow.holds Try.pinned (OpenSpec.ofChange fnExactWorstLoadSpec)

/-- ITS FALSE NEIGHBOUR: 'it returns false'. Refute it at one input. -/
def fnExactWorstLoadWrong : ChangeSpec := { name := "fnExactWorstLoad", fn := fun _ => fun
  | [d1, d2] => { results := [.lit (.bool false)], args := [d1, d2] }
  | _ => none }
def FnExactWorstLoadWrongFalsely : Prop := fnExactWorstLoadRow.holds Try.pinned (OpenSpec.ofChange fnExactWorstLoadWrong)

/-- 'laws.FnWorstLoad': WHATEVER THE INPUT: true; the input reads as it did. -/
def fnWorstLoadSpec : ChangeSpec := { name := "fnWorstLoad", fn := fun _ => fun
  | [d] => { results := [.lit (.bool true)], args := [d] }
  | _ => none }
def fnWorstLoadRow : OpenClaim := { program := "ytknddadgmbkpnaa", sum := "31a12e208542ac2463ddd36e2e08f72bbd6d75c9ed6d43d90bf0611f5b7ae349", func := "loop.example/liftsandlights/laws.FnWorstLoad", spec := "fnWorstLoad", apart := false }
def FnWorstLoadSaid : Prop := fnWorstLoadRow.holds Try.pinned (OpenSpec.ofChange fnWorstLoadSpec)

/-- ITS FALSE NEIGHBOUR: 'it returns false'. Refute it at one input. -/
def fnWorstLoadWrong : ChangeSpec := { name := "fnWorstLoad", fn := fun _ => fun
  | [d] => { results := [.lit (.bool false)], args := [d] }
  | _ => none }
def FnWorstLoadWrongFalsely : Prop := fnWorstLoadRow.holds Try.pinned (OpenSpec.ofChange fnWorstLoadWrong)

/-- 'laws.FnWorstLoadMore': WHATEVER THE INPUT: true; the input reads as it did. -/
def fnWorstLoadMoreSpec : ChangeSpec := { name := "fnWorstLoadMore", fn := fun _ => fun
  | [d] => { results := [.lit (.bool true)], args := [d] }
  | _ => none }
def fnWorstLoadMoreRow : OpenClaim := { program := "ytknddadgmbkpnaa", sum := "31a12e208542ac2463ddd36e2e08f72bbd6d75c9ed6d43d90bf0611f5b7ae349", func := "loop.example/liftsandlights/laws.FnWorstLoadMore", spec := "fnWorstLoadMore", apart := false }
def FnWorstLoadMoreSaid : Prop := fnWorstLoadMoreRow.holds Try.pinned (OpenSpec.ofChange fnWorstLoadMoreSpec)

/-- ITS FALSE NEIGHBOUR: 'it returns false'. Refute it at one input. -/
def fnWorstLoadMoreWrong : ChangeSpec := { name := "fnWorstLoadMore", fn := fun _ => fun
  | [d] => { results := [.lit (.bool false)], args := [d] }
  | _ => none }
def FnWorstLoadMoreWrongFalsely : Prop := fnWorstLoadMoreRow.holds Try.pinned (OpenSpec.ofChange fnWorstLoadMoreWrong)

/-- 'laws.FnExactSplitGreens': WHATEVER THE INPUT: true; the input reads as it did. -/
def fnExactSplitGreensSpec : ChangeSpec := { name := "fnExactSplitGreens", fn := fun _ => fun
  | [d1, d2, d3] => { results := [.lit (.bool true)], args := [d1, d2, d3] }
  | _ => none }
def fnExactSplitGreensRow : OpenClaim := { program := "ytknddadgmbkpnaa", sum := "31a12e208542ac2463ddd36e2e08f72bbd6d75c9ed6d43d90bf0611f5b7ae349", func := "loop.example/liftsandlights/laws.FnExactSplitGreens", spec := "fnExactSplitGreens", unfollowed := true, recurses := true, apart := false }
def FnExactSplitGreensSaid : Prop := fnExactSplitGreensRow.holds Try.pinned (OpenSpec.ofChange fnExactSplitGreensSpec)

/-- ITS FALSE NEIGHBOUR: 'it returns false'. Refute it at one input. -/
def fnExactSplitGreensWrong : ChangeSpec := { name := "fnExactSplitGreens", fn := fun _ => fun
  | [d1, d2, d3] => { results := [.lit (.bool false)], args := [d1, d2, d3] }
  | _ => none }
def FnExactSplitGreensWrongFalsely : Prop := fnExactSplitGreensRow.holds Try.pinned (OpenSpec.ofChange fnExactSplitGreensWrong)

/-- 'laws.FnSplitGreensOrder': WHATEVER THE INPUT: true; the input reads as it did. -/
def fnSplitGreensOrderSpec : ChangeSpec := { name := "fnSplitGreensOrder", fn := fun _ => fun
  | [d] => { results := [.lit (.bool true)], args := [d] }
  | _ => none }
def fnSplitGreensOrderRow : OpenClaim := { program := "ytknddadgmbkpnaa", sum := "31a12e208542ac2463ddd36e2e08f72bbd6d75c9ed6d43d90bf0611f5b7ae349", func := "loop.example/liftsandlights/laws.FnSplitGreensOrder", spec := "fnSplitGreensOrder", unfollowed := true, recurses := true, apart := false }
def FnSplitGreensOrderSaid : Prop := fnSplitGreensOrderRow.holds Try.pinned (OpenSpec.ofChange fnSplitGreensOrderSpec)

/-- ITS FALSE NEIGHBOUR: 'it returns false'. Refute it at one input. -/
def fnSplitGreensOrderWrong : ChangeSpec := { name := "fnSplitGreensOrder", fn := fun _ => fun
  | [d] => { results := [.lit (.bool false)], args := [d] }
  | _ => none }
def FnSplitGreensOrderWrongFalsely : Prop := fnSplitGreensOrderRow.holds Try.pinned (OpenSpec.ofChange fnSplitGreensOrderWrong)

/-- 'laws.FnSplitGreens': WHATEVER THE INPUT: true; the input reads as it did. -/
def fnSplitGreensSpec : ChangeSpec := { name := "fnSplitGreens", fn := fun _ => fun
  | [d] => { results := [.lit (.bool true)], args := [d] }
  | _ => none }
def fnSplitGreensRow : OpenClaim := { program := "ytknddadgmbkpnaa", sum := "31a12e208542ac2463ddd36e2e08f72bbd6d75c9ed6d43d90bf0611f5b7ae349", func := "loop.example/liftsandlights/laws.FnSplitGreens", spec := "fnSplitGreens", unfollowed := true, recurses := true, apart := false }
def FnSplitGreensSaid : Prop := fnSplitGreensRow.holds Try.pinned (OpenSpec.ofChange fnSplitGreensSpec)

/-- ITS FALSE NEIGHBOUR: 'it returns false'. Refute it at one input. -/
def fnSplitGreensWrong : ChangeSpec := { name := "fnSplitGreens", fn := fun _ => fun
  | [d] => { results := [.lit (.bool false)], args := [d] }
  | _ => none }
def FnSplitGreensWrongFalsely : Prop := fnSplitGreensRow.holds Try.pinned (OpenSpec.ofChange fnSplitGreensWrong)

/-- 'laws.FnSplitGreensExact': WHATEVER THE INPUT: true; the input reads as it did. -/
def fnSplitGreensExactSpec : ChangeSpec := { name := "fnSplitGreensExact", fn := fun _ => fun
  | [d] => { results := [.lit (.bool true)], args := [d] }
  | _ => none }
def fnSplitGreensExactRow : OpenClaim := { program := "ytknddadgmbkpnaa", sum := "31a12e208542ac2463ddd36e2e08f72bbd6d75c9ed6d43d90bf0611f5b7ae349", func := "loop.example/liftsandlights/laws.FnSplitGreensExact", spec := "fnSplitGreensExact", unfollowed := true, recurses := true, apart := false }
def FnSplitGreensExactSaid : Prop := fnSplitGreensExactRow.holds Try.pinned (OpenSpec.ofChange fnSplitGreensExactSpec)

/-- ITS FALSE NEIGHBOUR: 'it returns false'. Refute it at one input. -/
def fnSplitGreensExactWrong : ChangeSpec := { name := "fnSplitGreensExact", fn := fun _ => fun
  | [d] => { results := [.lit (.bool false)], args := [d] }
  | _ => none }
def FnSplitGreensExactWrongFalsely : Prop := fnSplitGreensExactRow.holds Try.pinned (OpenSpec.ofChange fnSplitGreensExactWrong)

/-- 'laws.FnSplitGreensMore': WHATEVER THE INPUT: true; the input reads as it did. -/
def fnSplitGreensMoreSpec : ChangeSpec := { name := "fnSplitGreensMore", fn := fun _ => fun
  | [d] => { results := [.lit (.bool true)], args := [d] }
  | _ => none }
def fnSplitGreensMoreRow : OpenClaim := { program := "ytknddadgmbkpnaa", sum := "31a12e208542ac2463ddd36e2e08f72bbd6d75c9ed6d43d90bf0611f5b7ae349", func := "loop.example/liftsandlights/laws.FnSplitGreensMore", spec := "fnSplitGreensMore", unfollowed := true, recurses := true, apart := false }
def FnSplitGreensMoreSaid : Prop := fnSplitGreensMoreRow.holds Try.pinned (OpenSpec.ofChange fnSplitGreensMoreSpec)

/-- ITS FALSE NEIGHBOUR: 'it returns false'. Refute it at one input. -/
def fnSplitGreensMoreWrong : ChangeSpec := { name := "fnSplitGreensMore", fn := fun _ => fun
  | [d] => { results := [.lit (.bool false)], args := [d] }
  | _ => none }
def FnSplitGreensMoreWrongFalsely : Prop := fnSplitGreensMoreRow.holds Try.pinned (OpenSpec.ofChange fnSplitGreensMoreWrong)

/- THE SECOND FORM. 'bulk': how many values and letters a reading holds, each counted each time it is reached (what is shared counts as often as it is met; a slice's spare places count too). A statement '..UptoSaid' is the law's where the arguments, and the package variables that the reading takes, are together of bulk at most 1048576: NARROWER than '..Said'. Prove '..Said' where nothing that the law and all that it calls make is longer than what came in: it says more and counts as full. Else prove '..UptoSaid'. A law counts once. -/
mutual
def uptoBulk {H : Type} : DataW H → Nat
  | .lit (.string bytes) => bytes.length + 1
  | .lit _ => 1
  | .nil => 1
  | .ptr d => uptoBulk d + 1
  | .slice elems spare => uptoBulkAll elems + uptoBulkAll spare + 1
  | .agg parts => uptoBulkAll parts + 1
  | .iface _ d => uptoBulk d + 1
  | .map entries => uptoBulkEntries entries + 1
  | .held _ => 1
def uptoBulkAll {H : Type} : List (DataW H) → Nat
  | [] => 0
  | d :: r => uptoBulk d + uptoBulkAll r
def uptoBulkEntries {H : Type} : List (Lit × DataW H) → Nat
  | [] => 0
  | x :: r => uptoBulkEntry x + uptoBulkEntries r
def uptoBulkEntry {H : Type} : Lit × DataW H → Nat
  | (.string bytes, d) => bytes.length + uptoBulk d + 1
  | (_, d) => uptoBulk d + 1
 end
def uptoSmall : (H : Type) → List (DataW H) → Bool := fun _ ds => decide (uptoBulkAll ds ≤ 1048576)
def OpenSpec.upto (s : _root_.Go.ChangeSpec) : _root_.Go.OpenSpec := { _root_.Go.OpenSpec.ofChange s with cond := some uptoSmall }

/-- 'laws.FnExactWorstLoad', WHERE WHAT IT READS IS OF BULK AT MOST 1048576: true; the input reads as it did. -/
def fnExactWorstLoadUptoRow : OpenClaim := { program := "ytknddadgmbkpnaa", sum := "31a12e208542ac2463ddd36e2e08f72bbd6d75c9ed6d43d90bf0611f5b7ae349", func := "loop.example/liftsandlights/laws.FnExactWorstLoad", spec := "fnExactWorstLoad", apart := false, narrowed := true }
def FnExactWorstLoadUptoSaid : Prop := fnExactWorstLoadUptoRow.holds Try.pinned (OpenSpec.upto fnExactWorstLoadSpec)

/-- 'laws.FnWorstLoad', WHERE WHAT IT READS IS OF BULK AT MOST 1048576: true; the input reads as it did. -/
def fnWorstLoadUptoRow : OpenClaim := { program := "ytknddadgmbkpnaa", sum := "31a12e208542ac2463ddd36e2e08f72bbd6d75c9ed6d43d90bf0611f5b7ae349", func := "loop.example/liftsandlights/laws.FnWorstLoad", spec := "fnWorstLoad", apart := false, narrowed := true }
def FnWorstLoadUptoSaid : Prop := fnWorstLoadUptoRow.holds Try.pinned (OpenSpec.upto fnWorstLoadSpec)

/-- 'laws.FnWorstLoadMore', WHERE WHAT IT READS IS OF BULK AT MOST 1048576: true; the input reads as it did. -/
def fnWorstLoadMoreUptoRow : OpenClaim := { program := "ytknddadgmbkpnaa", sum := "31a12e208542ac2463ddd36e2e08f72bbd6d75c9ed6d43d90bf0611f5b7ae349", func := "loop.example/liftsandlights/laws.FnWorstLoadMore", spec := "fnWorstLoadMore", apart := false, narrowed := true }
def FnWorstLoadMoreUptoSaid : Prop := fnWorstLoadMoreUptoRow.holds Try.pinned (OpenSpec.upto fnWorstLoadMoreSpec)

/-- 'laws.FnExactSplitGreens', WHERE WHAT IT READS IS OF BULK AT MOST 1048576: true; the input reads as it did. -/
def fnExactSplitGreensUptoRow : OpenClaim := { program := "ytknddadgmbkpnaa", sum := "31a12e208542ac2463ddd36e2e08f72bbd6d75c9ed6d43d90bf0611f5b7ae349", func := "loop.example/liftsandlights/laws.FnExactSplitGreens", spec := "fnExactSplitGreens", unfollowed := true, recurses := true, apart := false, narrowed := true }
def FnExactSplitGreensUptoSaid : Prop := fnExactSplitGreensUptoRow.holds Try.pinned (OpenSpec.upto fnExactSplitGreensSpec)

/-- 'laws.FnSplitGreensOrder', WHERE WHAT IT READS IS OF BULK AT MOST 1048576: true; the input reads as it did. -/
def fnSplitGreensOrderUptoRow : OpenClaim := { program := "ytknddadgmbkpnaa", sum := "31a12e208542ac2463ddd36e2e08f72bbd6d75c9ed6d43d90bf0611f5b7ae349", func := "loop.example/liftsandlights/laws.FnSplitGreensOrder", spec := "fnSplitGreensOrder", unfollowed := true, recurses := true, apart := false, narrowed := true }
def FnSplitGreensOrderUptoSaid : Prop := fnSplitGreensOrderUptoRow.holds Try.pinned (OpenSpec.upto fnSplitGreensOrderSpec)

/-- 'laws.FnSplitGreens', WHERE WHAT IT READS IS OF BULK AT MOST 1048576: true; the input reads as it did. -/
def fnSplitGreensUptoRow : OpenClaim := { program := "ytknddadgmbkpnaa", sum := "31a12e208542ac2463ddd36e2e08f72bbd6d75c9ed6d43d90bf0611f5b7ae349", func := "loop.example/liftsandlights/laws.FnSplitGreens", spec := "fnSplitGreens", unfollowed := true, recurses := true, apart := false, narrowed := true }
def FnSplitGreensUptoSaid : Prop := fnSplitGreensUptoRow.holds Try.pinned (OpenSpec.upto fnSplitGreensSpec)

/-- 'laws.FnSplitGreensExact', WHERE WHAT IT READS IS OF BULK AT MOST 1048576: true; the input reads as it did. -/
def fnSplitGreensExactUptoRow : OpenClaim := { program := "ytknddadgmbkpnaa", sum := "31a12e208542ac2463ddd36e2e08f72bbd6d75c9ed6d43d90bf0611f5b7ae349", func := "loop.example/liftsandlights/laws.FnSplitGreensExact", spec := "fnSplitGreensExact", unfollowed := true, recurses := true, apart := false, narrowed := true }
def FnSplitGreensExactUptoSaid : Prop := fnSplitGreensExactUptoRow.holds Try.pinned (OpenSpec.upto fnSplitGreensExactSpec)

/-- 'laws.FnSplitGreensMore', WHERE WHAT IT READS IS OF BULK AT MOST 1048576: true; the input reads as it did. -/
def fnSplitGreensMoreUptoRow : OpenClaim := { program := "ytknddadgmbkpnaa", sum := "31a12e208542ac2463ddd36e2e08f72bbd6d75c9ed6d43d90bf0611f5b7ae349", func := "loop.example/liftsandlights/laws.FnSplitGreensMore", spec := "fnSplitGreensMore", unfollowed := true, recurses := true, apart := false, narrowed := true }
def FnSplitGreensMoreUptoSaid : Prop := fnSplitGreensMoreUptoRow.holds Try.pinned (OpenSpec.upto fnSplitGreensMoreSpec)

end Rows
end Go.Proofs.Ytknddadgmbkpnaa
