/-
  No cell of these rows narrows 'for every input' (looked for: loops, veiled, ifaces, maps, wideKeys, modest, calm, conditions, laid).
  DERIVED. THE GIVEN ROWS OF THIS SEAT. 4 by the template 'for every input the law returns true; each argument reads behind the call as it read before'; 0 by the template 'total and deterministic' (their statements: YtkppjngpllmpfaaTotals.lean).
  GIVEN WITH THE SEED: the statements are not yours to turn. If you find one false, say at which input.
  Laid BY PROGRAM, IN A SANDBOX (cutbox-rows.mjs): the forced cells as the released guide's own fill.sh prints them over the translation 706439b0b16cdcea… (all of the seat's roots in one cut). By AI agents, Wed Nov 11 2026. No macro, syntax, notation, axiom, sorry.
-/
import Derived.Test.YtkppjngpllmpfaaChecked
import GoSem.Claim
import GoSem.ClaimJoined
import GoSem.ClaimMapViews
import Derived.JoinedTies
import Derived.KernelRfl
namespace Go.Proofs.Ytkppjngpllmpfaa
/- THE CELL 'sum', in the pinned program and in every row, IS THE sha256 OF THE DUMP (.gsa) THAT YtkppjngpllmpfaaProg.lean LOADS. Nothing in Lean hashes anything: it is a label: what it is worth is what the hold of that sum in a sandbox is worth. -/
noncomputable def Try.pinned : Pinned := { name := "ytkppjngpllmpfaa", sum := "706439b0b16cdcea1600862ab4d066ed84417a06fe75c22263a5c6cfdda9dcce", checked := Try.checked }
namespace Rows
def none {H : Type} : Left H := { results := [], args := [] }

/-- 'laws.FnRunActorGreens': WHATEVER THE INPUT: true; the input reads as it did. -/
def fnRunActorGreensSpec : ChangeSpec := { name := "fnRunActorGreens", fn := fun _ => fun
  | [d] => { results := [.lit (.bool true)], args := [d] }
  | _ => none }
def fnRunActorGreensRow : OpenClaim := { program := "ytkppjngpllmpfaa", sum := "706439b0b16cdcea1600862ab4d066ed84417a06fe75c22263a5c6cfdda9dcce", func := "loop.example/liftsandlights/laws.FnRunActorGreens", spec := "fnRunActorGreens", apart := false }
def FnRunActorGreensSaid : Prop := fnRunActorGreensRow.holds Try.pinned (OpenSpec.ofChange fnRunActorGreensSpec)

/-- ITS FALSE NEIGHBOUR: 'it returns false'. Refute it at one input. -/
def fnRunActorGreensWrong : ChangeSpec := { name := "fnRunActorGreens", fn := fun _ => fun
  | [d] => { results := [.lit (.bool false)], args := [d] }
  | _ => none }
def FnRunActorGreensWrongFalsely : Prop := fnRunActorGreensRow.holds Try.pinned (OpenSpec.ofChange fnRunActorGreensWrong)

/-- 'laws.FnRunActorPrefix': WHATEVER THE INPUT: true; the input reads as it did. -/
def fnRunActorPrefixSpec : ChangeSpec := { name := "fnRunActorPrefix", fn := fun _ => fun
  | [d] => { results := [.lit (.bool true)], args := [d] }
  | _ => none }
def fnRunActorPrefixRow : OpenClaim := { program := "ytkppjngpllmpfaa", sum := "706439b0b16cdcea1600862ab4d066ed84417a06fe75c22263a5c6cfdda9dcce", func := "loop.example/liftsandlights/laws.FnRunActorPrefix", spec := "fnRunActorPrefix", apart := false }
def FnRunActorPrefixSaid : Prop := fnRunActorPrefixRow.holds Try.pinned (OpenSpec.ofChange fnRunActorPrefixSpec)

/-- ITS FALSE NEIGHBOUR: 'it returns false'. Refute it at one input. -/
def fnRunActorPrefixWrong : ChangeSpec := { name := "fnRunActorPrefix", fn := fun _ => fun
  | [d] => { results := [.lit (.bool false)], args := [d] }
  | _ => none }
def FnRunActorPrefixWrongFalsely : Prop := fnRunActorPrefixRow.holds Try.pinned (OpenSpec.ofChange fnRunActorPrefixWrong)

/-- 'laws.FnRunActor': WHATEVER THE INPUT: true; the input reads as it did. -/
def fnRunActorSpec : ChangeSpec := { name := "fnRunActor", fn := fun _ => fun
  | [d] => { results := [.lit (.bool true)], args := [d] }
  | _ => none }
def fnRunActorRow : OpenClaim := { program := "ytkppjngpllmpfaa", sum := "706439b0b16cdcea1600862ab4d066ed84417a06fe75c22263a5c6cfdda9dcce", func := "loop.example/liftsandlights/laws.FnRunActor", spec := "fnRunActor", apart := false }
def FnRunActorSaid : Prop := fnRunActorRow.holds Try.pinned (OpenSpec.ofChange fnRunActorSpec)

/-- ITS FALSE NEIGHBOUR: 'it returns false'. Refute it at one input. -/
def fnRunActorWrong : ChangeSpec := { name := "fnRunActor", fn := fun _ => fun
  | [d] => { results := [.lit (.bool false)], args := [d] }
  | _ => none }
def FnRunActorWrongFalsely : Prop := fnRunActorRow.holds Try.pinned (OpenSpec.ofChange fnRunActorWrong)

/-- 'laws.FnExactRunActor': WHATEVER THE INPUT: true; the input reads as it did. -/
def fnExactRunActorSpec : ChangeSpec := { name := "fnExactRunActor", fn := fun _ => fun
  | [d1, d2] => { results := [.lit (.bool true)], args := [d1, d2] }
  | _ => none }
def fnExactRunActorRow : OpenClaim := { program := "ytkppjngpllmpfaa", sum := "706439b0b16cdcea1600862ab4d066ed84417a06fe75c22263a5c6cfdda9dcce", func := "loop.example/liftsandlights/laws.FnExactRunActor", spec := "fnExactRunActor", apart := false }
def FnExactRunActorSaid : Prop := fnExactRunActorRow.holds Try.pinned (OpenSpec.ofChange fnExactRunActorSpec)

/-- ITS FALSE NEIGHBOUR: 'it returns false'. Refute it at one input. -/
def fnExactRunActorWrong : ChangeSpec := { name := "fnExactRunActor", fn := fun _ => fun
  | [d1, d2] => { results := [.lit (.bool false)], args := [d1, d2] }
  | _ => none }
def FnExactRunActorWrongFalsely : Prop := fnExactRunActorRow.holds Try.pinned (OpenSpec.ofChange fnExactRunActorWrong)

/- THE SECOND FORM. 'bulk': how many values and letters a reading holds, each counted each time it is reached (what is shared counts as often as it is met; a slice's spare places count too). A statement '..UptoSaid' is the law's where the arguments, and the package variables that the reading takes, are together of bulk at most 1048576: NARROWER than '..Said'. Prove '..Said' where nothing that the law and all that it calls make is longer than what came in: it says more and counts as full. Else prove '..UptoSaid'. A law counts once. -/
mutual
def uptoBulk {H : Type} : DataW H → Nat
  | .lit (.string bytes) => bytes.length + 1
  | .lit _ => 1
  | .nil => 1
  | .ptr d => uptoBulk d + 1
  | .slice elems spare => uptoBulkAll elems + uptoBulkAll spare + 1
  | .agg parts => uptoBulkAll parts + 1
  | .iface _ d => uptoBulk d + 1
  | .map entries => uptoBulkEntries entries + 1
  | .held _ => 1
def uptoBulkAll {H : Type} : List (DataW H) → Nat
  | [] => 0
  | d :: r => uptoBulk d + uptoBulkAll r
def uptoBulkEntries {H : Type} : List (Lit × DataW H) → Nat
  | [] => 0
  | x :: r => uptoBulkEntry x + uptoBulkEntries r
def uptoBulkEntry {H : Type} : Lit × DataW H → Nat
  | (.string bytes, d) => bytes.length + uptoBulk d + 1
  | (_, d) => uptoBulk d + 1
 end
def uptoSmall : (H : Type) → List (DataW H) → Bool := fun _ ds => decide (uptoBulkAll ds ≤ 1048576)
def OpenSpec.upto (s : _root_.Go.ChangeSpec) : _root_.Go.OpenSpec := { _root_.Go.OpenSpec.ofChange s with cond := some uptoSmall }

/-- 'laws.FnRunActorGreens', WHERE WHAT IT READS IS OF BULK AT MOST 1048576: true; the input reads as it did. -/
def fnRunActorGreensUptoRow : OpenClaim := { program := "ytkppjngpllmpfaa", sum := "706439b0b16cdcea1600862ab4d066ed84417a06fe75c22263a5c6cfdda9dcce", func := "loop.example/liftsandlights/laws.FnRunActorGreens", spec := "fnRunActorGreens", apart := false, narrowed := true }
def FnRunActorGreensUptoSaid : Prop := fnRunActorGreensUptoRow.holds Try.pinned (OpenSpec.upto fnRunActorGreensSpec)

/-- 'laws.FnRunActorPrefix', WHERE WHAT IT READS IS OF BULK AT MOST 1048576: true; the input reads as it did. -/
def fnRunActorPrefixUptoRow : OpenClaim := { program := "ytkppjngpllmpfaa", sum := "706439b0b16cdcea1600862ab4d066ed84417a06fe75c22263a5c6cfdda9dcce", func := "loop.example/liftsandlights/laws.FnRunActorPrefix", spec := "fnRunActorPrefix", apart := false, narrowed := true }
def FnRunActorPrefixUptoSaid : Prop := fnRunActorPrefixUptoRow.holds Try.pinned (OpenSpec.upto fnRunActorPrefixSpec)

/-- 'laws.FnRunActor', WHERE WHAT IT READS IS OF BULK AT MOST 1048576: true; the input reads as it did. -/
def fnRunActorUptoRow : OpenClaim := { program := "ytkppjngpllmpfaa", sum := "706439b0b16cdcea1600862ab4d066ed84417a06fe75c22263a5c6cfdda9dcce", func := "loop.example/liftsandlights/laws.FnRunActor", spec := "fnRunActor", apart := false, narrowed := true }
def FnRunActorUptoSaid : Prop := fnRunActorUptoRow.holds Try.pinned (OpenSpec.upto fnRunActorSpec)

/-- 'laws.FnExactRunActor', WHERE WHAT IT READS IS OF BULK AT MOST 1048576: true; the input reads as it did. -/
def fnExactRunActorUptoRow : OpenClaim := { program := "ytkppjngpllmpfaa", sum := "706439b0b16cdcea1600862ab4d066ed84417a06fe75c22263a5c6cfdda9dcce", func := "loop.example/liftsandlights/laws.FnExactRunActor", spec := "fnExactRunActor", apart := false, narrowed := true }
def FnExactRunActorUptoSaid : Prop := fnExactRunActorUptoRow.holds Try.pinned (OpenSpec.upto fnExactRunActorSpec)

end Rows
end Go.Proofs.Ytkppjngpllmpfaa
