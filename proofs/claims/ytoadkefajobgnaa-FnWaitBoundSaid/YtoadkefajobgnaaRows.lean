/-
  No cell of these rows narrows 'for every input' (looked for: loops, veiled, ifaces, maps, wideKeys, modest, calm, conditions, laid).
  DERIVED. THE GIVEN ROWS OF THIS SEAT. 10 by the template 'for every input the law returns true; each argument reads behind the call as it read before'; 0 by the template 'total and deterministic' (their statements: YtoadkefajobgnaaTotals.lean).
  GIVEN WITH THE SEED: the statements are not yours to turn. If you find one false, say at which input.
  Laid BY PROGRAM, IN A SANDBOX (cutbox-rows.mjs): the forced cells as the released guide's own fill.sh prints them over the translation dc3d54cfc7c89099… (all of the seat's roots in one cut). By AI agents, Wed Nov 11 2026. No macro, syntax, notation, axiom, sorry.
-/
import Derived.Test.YtoadkefajobgnaaChecked
import GoSem.Claim
import GoSem.ClaimJoined
import GoSem.ClaimMapViews
import Derived.JoinedTies
import Derived.KernelRfl
namespace Go.Proofs.Ytoadkefajobgnaa
/- THE CELL 'sum', in the pinned program and in every row, IS THE sha256 OF THE DUMP (.gsa) THAT YtoadkefajobgnaaProg.lean LOADS. Nothing in Lean hashes anything: it is a label: what it is worth is what the hold of that sum in a sandbox is worth. -/
noncomputable def Try.pinned : Pinned := { name := "ytoadkefajobgnaa", sum := "dc3d54cfc7c89099f3181409d91a94c571dd7350e2d39b0d8e6f75beab6bec08", checked := Try.checked }
namespace Rows
def none {H : Type} : Left H := { results := [], args := [] }

/-- 'laws.FnExactValidActor': WHATEVER THE INPUT: true; the input reads as it did. -/
def fnExactValidActorSpec : ChangeSpec := { name := "fnExactValidActor", fn := fun _ => fun
  | [d] => { results := [.lit (.bool true)], args := [d] }
  | _ => none }
def fnExactValidActorRow : OpenClaim := { program := "ytoadkefajobgnaa", sum := "dc3d54cfc7c89099f3181409d91a94c571dd7350e2d39b0d8e6f75beab6bec08", func := "loop.example/liftsandlights/laws.FnExactValidActor", spec := "fnExactValidActor", apart := false }
def FnExactValidActorSaid : Prop := fnExactValidActorRow.holds Try.pinned (OpenSpec.ofChange fnExactValidActorSpec)

/-- ITS FALSE NEIGHBOUR: 'it returns false'. Refute it at one input. -/
def fnExactValidActorWrong : ChangeSpec := { name := "fnExactValidActor", fn := fun _ => fun
  | [d] => { results := [.lit (.bool false)], args := [d] }
  | _ => none }
def FnExactValidActorWrongFalsely : Prop := fnExactValidActorRow.holds Try.pinned (OpenSpec.ofChange fnExactValidActorWrong)

/-- 'laws.FnExactWaitBound': WHATEVER THE INPUT: true; the input reads as it did. -/
def fnExactWaitBoundSpec : ChangeSpec := { name := "fnExactWaitBound", fn := fun _ => fun
  | [d] => { results := [.lit (.bool true)], args := [d] }
  | _ => none }
def fnExactWaitBoundRow : OpenClaim := { program := "ytoadkefajobgnaa", sum := "dc3d54cfc7c89099f3181409d91a94c571dd7350e2d39b0d8e6f75beab6bec08", func := "loop.example/liftsandlights/laws.FnExactWaitBound", spec := "fnExactWaitBound", apart := false }
def FnExactWaitBoundSaid : Prop := fnExactWaitBoundRow.holds Try.pinned (OpenSpec.ofChange fnExactWaitBoundSpec)

/-- ITS FALSE NEIGHBOUR: 'it returns false'. Refute it at one input. -/
def fnExactWaitBoundWrong : ChangeSpec := { name := "fnExactWaitBound", fn := fun _ => fun
  | [d] => { results := [.lit (.bool false)], args := [d] }
  | _ => none }
def FnExactWaitBoundWrongFalsely : Prop := fnExactWaitBoundRow.holds Try.pinned (OpenSpec.ofChange fnExactWaitBoundWrong)

/-- 'laws.FnValidActor': WHATEVER THE INPUT: true; the input reads as it did. -/
def fnValidActorSpec : ChangeSpec := { name := "fnValidActor", fn := fun _ => fun
  | [d] => { results := [.lit (.bool true)], args := [d] }
  | _ => none }
def fnValidActorRow : OpenClaim := { program := "ytoadkefajobgnaa", sum := "dc3d54cfc7c89099f3181409d91a94c571dd7350e2d39b0d8e6f75beab6bec08", func := "loop.example/liftsandlights/laws.FnValidActor", spec := "fnValidActor", apart := false }
def FnValidActorSaid : Prop := fnValidActorRow.holds Try.pinned (OpenSpec.ofChange fnValidActorSpec)

/-- ITS FALSE NEIGHBOUR: 'it returns false'. Refute it at one input. -/
def fnValidActorWrong : ChangeSpec := { name := "fnValidActor", fn := fun _ => fun
  | [d] => { results := [.lit (.bool false)], args := [d] }
  | _ => none }
def FnValidActorWrongFalsely : Prop := fnValidActorRow.holds Try.pinned (OpenSpec.ofChange fnValidActorWrong)

/-- 'laws.FnWaitBoundOne': WHATEVER THE INPUT: true; the input reads as it did. -/
def fnWaitBoundOneSpec : ChangeSpec := { name := "fnWaitBoundOne", fn := fun _ => fun
  | [d] => { results := [.lit (.bool true)], args := [d] }
  | _ => none }
def fnWaitBoundOneRow : OpenClaim := { program := "ytoadkefajobgnaa", sum := "dc3d54cfc7c89099f3181409d91a94c571dd7350e2d39b0d8e6f75beab6bec08", func := "loop.example/liftsandlights/laws.FnWaitBoundOne", spec := "fnWaitBoundOne", apart := false }
def FnWaitBoundOneSaid : Prop := fnWaitBoundOneRow.holds Try.pinned (OpenSpec.ofChange fnWaitBoundOneSpec)

/-- ITS FALSE NEIGHBOUR: 'it returns false'. Refute it at one input. -/
def fnWaitBoundOneWrong : ChangeSpec := { name := "fnWaitBoundOne", fn := fun _ => fun
  | [d] => { results := [.lit (.bool false)], args := [d] }
  | _ => none }
def FnWaitBoundOneWrongFalsely : Prop := fnWaitBoundOneRow.holds Try.pinned (OpenSpec.ofChange fnWaitBoundOneWrong)

/-- 'laws.FnWaitBound': WHATEVER THE INPUT: true; the input reads as it did. -/
def fnWaitBoundSpec : ChangeSpec := { name := "fnWaitBound", fn := fun _ => fun
  | [d] => { results := [.lit (.bool true)], args := [d] }
  | _ => none }
def fnWaitBoundRow : OpenClaim := { program := "ytoadkefajobgnaa", sum := "dc3d54cfc7c89099f3181409d91a94c571dd7350e2d39b0d8e6f75beab6bec08", func := "loop.example/liftsandlights/laws.FnWaitBound", spec := "fnWaitBound", apart := false }
def FnWaitBoundSaid : Prop := fnWaitBoundRow.holds Try.pinned (OpenSpec.ofChange fnWaitBoundSpec)

/-- ITS FALSE NEIGHBOUR: 'it returns false'. Refute it at one input. -/
def fnWaitBoundWrong : ChangeSpec := { name := "fnWaitBound", fn := fun _ => fun
  | [d] => { results := [.lit (.bool false)], args := [d] }
  | _ => none }
def FnWaitBoundWrongFalsely : Prop := fnWaitBoundRow.holds Try.pinned (OpenSpec.ofChange fnWaitBoundWrong)

/-- 'laws.FnStepActorCalm': WHATEVER THE INPUT: true; the input reads as it did. -/
def fnStepActorCalmSpec : ChangeSpec := { name := "fnStepActorCalm", fn := fun _ => fun
  | [d] => { results := [.lit (.bool true)], args := [d] }
  | _ => none }
def fnStepActorCalmRow : OpenClaim := { program := "ytoadkefajobgnaa", sum := "dc3d54cfc7c89099f3181409d91a94c571dd7350e2d39b0d8e6f75beab6bec08", func := "loop.example/liftsandlights/laws.FnStepActorCalm", spec := "fnStepActorCalm", apart := false }
def FnStepActorCalmSaid : Prop := fnStepActorCalmRow.holds Try.pinned (OpenSpec.ofChange fnStepActorCalmSpec)

/-- ITS FALSE NEIGHBOUR: 'it returns false'. Refute it at one input. -/
def fnStepActorCalmWrong : ChangeSpec := { name := "fnStepActorCalm", fn := fun _ => fun
  | [d] => { results := [.lit (.bool false)], args := [d] }
  | _ => none }
def FnStepActorCalmWrongFalsely : Prop := fnStepActorCalmRow.holds Try.pinned (OpenSpec.ofChange fnStepActorCalmWrong)

/-- 'laws.FnStepActorGreen': WHATEVER THE INPUT: true; the input reads as it did. -/
def fnStepActorGreenSpec : ChangeSpec := { name := "fnStepActorGreen", fn := fun _ => fun
  | [d] => { results := [.lit (.bool true)], args := [d] }
  | _ => none }
def fnStepActorGreenRow : OpenClaim := { program := "ytoadkefajobgnaa", sum := "dc3d54cfc7c89099f3181409d91a94c571dd7350e2d39b0d8e6f75beab6bec08", func := "loop.example/liftsandlights/laws.FnStepActorGreen", spec := "fnStepActorGreen", apart := false }
def FnStepActorGreenSaid : Prop := fnStepActorGreenRow.holds Try.pinned (OpenSpec.ofChange fnStepActorGreenSpec)

/-- ITS FALSE NEIGHBOUR: 'it returns false'. Refute it at one input. -/
def fnStepActorGreenWrong : ChangeSpec := { name := "fnStepActorGreen", fn := fun _ => fun
  | [d] => { results := [.lit (.bool false)], args := [d] }
  | _ => none }
def FnStepActorGreenWrongFalsely : Prop := fnStepActorGreenRow.holds Try.pinned (OpenSpec.ofChange fnStepActorGreenWrong)

/-- 'laws.FnStepActorMost': WHATEVER THE INPUT: true; the input reads as it did. -/
def fnStepActorMostSpec : ChangeSpec := { name := "fnStepActorMost", fn := fun _ => fun
  | [d] => { results := [.lit (.bool true)], args := [d] }
  | _ => none }
def fnStepActorMostRow : OpenClaim := { program := "ytoadkefajobgnaa", sum := "dc3d54cfc7c89099f3181409d91a94c571dd7350e2d39b0d8e6f75beab6bec08", func := "loop.example/liftsandlights/laws.FnStepActorMost", spec := "fnStepActorMost", apart := false }
def FnStepActorMostSaid : Prop := fnStepActorMostRow.holds Try.pinned (OpenSpec.ofChange fnStepActorMostSpec)

/-- ITS FALSE NEIGHBOUR: 'it returns false'. Refute it at one input. -/
def fnStepActorMostWrong : ChangeSpec := { name := "fnStepActorMost", fn := fun _ => fun
  | [d] => { results := [.lit (.bool false)], args := [d] }
  | _ => none }
def FnStepActorMostWrongFalsely : Prop := fnStepActorMostRow.holds Try.pinned (OpenSpec.ofChange fnStepActorMostWrong)

/-- 'laws.FnStepActorWanted': WHATEVER THE INPUT: true; the input reads as it did. -/
def fnStepActorWantedSpec : ChangeSpec := { name := "fnStepActorWanted", fn := fun _ => fun
  | [d] => { results := [.lit (.bool true)], args := [d] }
  | _ => none }
def fnStepActorWantedRow : OpenClaim := { program := "ytoadkefajobgnaa", sum := "dc3d54cfc7c89099f3181409d91a94c571dd7350e2d39b0d8e6f75beab6bec08", func := "loop.example/liftsandlights/laws.FnStepActorWanted", spec := "fnStepActorWanted", apart := false }
def FnStepActorWantedSaid : Prop := fnStepActorWantedRow.holds Try.pinned (OpenSpec.ofChange fnStepActorWantedSpec)

/-- ITS FALSE NEIGHBOUR: 'it returns false'. Refute it at one input. -/
def fnStepActorWantedWrong : ChangeSpec := { name := "fnStepActorWanted", fn := fun _ => fun
  | [d] => { results := [.lit (.bool false)], args := [d] }
  | _ => none }
def FnStepActorWantedWrongFalsely : Prop := fnStepActorWantedRow.holds Try.pinned (OpenSpec.ofChange fnStepActorWantedWrong)

/-- 'laws.FnExactStepActor': WHATEVER THE INPUT: true; the input reads as it did. -/
def fnExactStepActorSpec : ChangeSpec := { name := "fnExactStepActor", fn := fun _ => fun
  | [d1, d2] => { results := [.lit (.bool true)], args := [d1, d2] }
  | _ => none }
def fnExactStepActorRow : OpenClaim := { program := "ytoadkefajobgnaa", sum := "dc3d54cfc7c89099f3181409d91a94c571dd7350e2d39b0d8e6f75beab6bec08", func := "loop.example/liftsandlights/laws.FnExactStepActor", spec := "fnExactStepActor", apart := false }
def FnExactStepActorSaid : Prop := fnExactStepActorRow.holds Try.pinned (OpenSpec.ofChange fnExactStepActorSpec)

/-- ITS FALSE NEIGHBOUR: 'it returns false'. Refute it at one input. -/
def fnExactStepActorWrong : ChangeSpec := { name := "fnExactStepActor", fn := fun _ => fun
  | [d1, d2] => { results := [.lit (.bool false)], args := [d1, d2] }
  | _ => none }
def FnExactStepActorWrongFalsely : Prop := fnExactStepActorRow.holds Try.pinned (OpenSpec.ofChange fnExactStepActorWrong)

/- THE SECOND FORM. 'bulk': how many values and letters a reading holds, each counted each time it is reached (what is shared counts as often as it is met; a slice's spare places count too). A statement '..UptoSaid' is the law's where the arguments, and the package variables that the reading takes, are together of bulk at most 1048576: NARROWER than '..Said'. Prove '..Said' where nothing that the law and all that it calls make is longer than what came in: it says more and counts as full. Else prove '..UptoSaid'. A law counts once. -/
mutual
def uptoBulk {H : Type} : DataW H → Nat
  | .lit (.string bytes) => bytes.length + 1
  | .lit _ => 1
  | .nil => 1
  | .ptr d => uptoBulk d + 1
  | .slice elems spare => uptoBulkAll elems + uptoBulkAll spare + 1
  | .agg parts => uptoBulkAll parts + 1
  | .iface _ d => uptoBulk d + 1
  | .map entries => uptoBulkEntries entries + 1
  | .held _ => 1
def uptoBulkAll {H : Type} : List (DataW H) → Nat
  | [] => 0
  | d :: r => uptoBulk d + uptoBulkAll r
def uptoBulkEntries {H : Type} : List (Lit × DataW H) → Nat
  | [] => 0
  | x :: r => uptoBulkEntry x + uptoBulkEntries r
def uptoBulkEntry {H : Type} : Lit × DataW H → Nat
  | (.string bytes, d) => bytes.length + uptoBulk d + 1
  | (_, d) => uptoBulk d + 1
 end
def uptoSmall : (H : Type) → List (DataW H) → Bool := fun _ ds => decide (uptoBulkAll ds ≤ 1048576)
def OpenSpec.upto (s : _root_.Go.ChangeSpec) : _root_.Go.OpenSpec := { _root_.Go.OpenSpec.ofChange s with cond := some uptoSmall }

/-- 'laws.FnExactValidActor', WHERE WHAT IT READS IS OF BULK AT MOST 1048576: true; the input reads as it did. -/
def fnExactValidActorUptoRow : OpenClaim := { program := "ytoadkefajobgnaa", sum := "dc3d54cfc7c89099f3181409d91a94c571dd7350e2d39b0d8e6f75beab6bec08", func := "loop.example/liftsandlights/laws.FnExactValidActor", spec := "fnExactValidActor", apart := false, narrowed := true }
def FnExactValidActorUptoSaid : Prop := fnExactValidActorUptoRow.holds Try.pinned (OpenSpec.upto fnExactValidActorSpec)

/-- 'laws.FnExactWaitBound', WHERE WHAT IT READS IS OF BULK AT MOST 1048576: true; the input reads as it did. -/
def fnExactWaitBoundUptoRow : OpenClaim := { program := "ytoadkefajobgnaa", sum := "dc3d54cfc7c89099f3181409d91a94c571dd7350e2d39b0d8e6f75beab6bec08", func := "loop.example/liftsandlights/laws.FnExactWaitBound", spec := "fnExactWaitBound", apart := false, narrowed := true }
def FnExactWaitBoundUptoSaid : Prop := fnExactWaitBoundUptoRow.holds Try.pinned (OpenSpec.upto fnExactWaitBoundSpec)

/-- 'laws.FnValidActor', WHERE WHAT IT READS IS OF BULK AT MOST 1048576: true; the input reads as it did. -/
def fnValidActorUptoRow : OpenClaim := { program := "ytoadkefajobgnaa", sum := "dc3d54cfc7c89099f3181409d91a94c571dd7350e2d39b0d8e6f75beab6bec08", func := "loop.example/liftsandlights/laws.FnValidActor", spec := "fnValidActor", apart := false, narrowed := true }
def FnValidActorUptoSaid : Prop := fnValidActorUptoRow.holds Try.pinned (OpenSpec.upto fnValidActorSpec)

/-- 'laws.FnWaitBoundOne', WHERE WHAT IT READS IS OF BULK AT MOST 1048576: true; the input reads as it did. -/
def fnWaitBoundOneUptoRow : OpenClaim := { program := "ytoadkefajobgnaa", sum := "dc3d54cfc7c89099f3181409d91a94c571dd7350e2d39b0d8e6f75beab6bec08", func := "loop.example/liftsandlights/laws.FnWaitBoundOne", spec := "fnWaitBoundOne", apart := false, narrowed := true }
def FnWaitBoundOneUptoSaid : Prop := fnWaitBoundOneUptoRow.holds Try.pinned (OpenSpec.upto fnWaitBoundOneSpec)

/-- 'laws.FnWaitBound', WHERE WHAT IT READS IS OF BULK AT MOST 1048576: true; the input reads as it did. -/
def fnWaitBoundUptoRow : OpenClaim := { program := "ytoadkefajobgnaa", sum := "dc3d54cfc7c89099f3181409d91a94c571dd7350e2d39b0d8e6f75beab6bec08", func := "loop.example/liftsandlights/laws.FnWaitBound", spec := "fnWaitBound", apart := false, narrowed := true }
def FnWaitBoundUptoSaid : Prop := fnWaitBoundUptoRow.holds Try.pinned (OpenSpec.upto fnWaitBoundSpec)

/-- 'laws.FnStepActorCalm', WHERE WHAT IT READS IS OF BULK AT MOST 1048576: true; the input reads as it did. -/
def fnStepActorCalmUptoRow : OpenClaim := { program := "ytoadkefajobgnaa", sum := "dc3d54cfc7c89099f3181409d91a94c571dd7350e2d39b0d8e6f75beab6bec08", func := "loop.example/liftsandlights/laws.FnStepActorCalm", spec := "fnStepActorCalm", apart := false, narrowed := true }
def FnStepActorCalmUptoSaid : Prop := fnStepActorCalmUptoRow.holds Try.pinned (OpenSpec.upto fnStepActorCalmSpec)

/-- 'laws.FnStepActorGreen', WHERE WHAT IT READS IS OF BULK AT MOST 1048576: true; the input reads as it did. -/
def fnStepActorGreenUptoRow : OpenClaim := { program := "ytoadkefajobgnaa", sum := "dc3d54cfc7c89099f3181409d91a94c571dd7350e2d39b0d8e6f75beab6bec08", func := "loop.example/liftsandlights/laws.FnStepActorGreen", spec := "fnStepActorGreen", apart := false, narrowed := true }
def FnStepActorGreenUptoSaid : Prop := fnStepActorGreenUptoRow.holds Try.pinned (OpenSpec.upto fnStepActorGreenSpec)

/-- 'laws.FnStepActorMost', WHERE WHAT IT READS IS OF BULK AT MOST 1048576: true; the input reads as it did. -/
def fnStepActorMostUptoRow : OpenClaim := { program := "ytoadkefajobgnaa", sum := "dc3d54cfc7c89099f3181409d91a94c571dd7350e2d39b0d8e6f75beab6bec08", func := "loop.example/liftsandlights/laws.FnStepActorMost", spec := "fnStepActorMost", apart := false, narrowed := true }
def FnStepActorMostUptoSaid : Prop := fnStepActorMostUptoRow.holds Try.pinned (OpenSpec.upto fnStepActorMostSpec)

/-- 'laws.FnStepActorWanted', WHERE WHAT IT READS IS OF BULK AT MOST 1048576: true; the input reads as it did. -/
def fnStepActorWantedUptoRow : OpenClaim := { program := "ytoadkefajobgnaa", sum := "dc3d54cfc7c89099f3181409d91a94c571dd7350e2d39b0d8e6f75beab6bec08", func := "loop.example/liftsandlights/laws.FnStepActorWanted", spec := "fnStepActorWanted", apart := false, narrowed := true }
def FnStepActorWantedUptoSaid : Prop := fnStepActorWantedUptoRow.holds Try.pinned (OpenSpec.upto fnStepActorWantedSpec)

/-- 'laws.FnExactStepActor', WHERE WHAT IT READS IS OF BULK AT MOST 1048576: true; the input reads as it did. -/
def fnExactStepActorUptoRow : OpenClaim := { program := "ytoadkefajobgnaa", sum := "dc3d54cfc7c89099f3181409d91a94c571dd7350e2d39b0d8e6f75beab6bec08", func := "loop.example/liftsandlights/laws.FnExactStepActor", spec := "fnExactStepActor", apart := false, narrowed := true }
def FnExactStepActorUptoSaid : Prop := fnExactStepActorUptoRow.holds Try.pinned (OpenSpec.upto fnExactStepActorSpec)

end Rows
end Go.Proofs.Ytoadkefajobgnaa
