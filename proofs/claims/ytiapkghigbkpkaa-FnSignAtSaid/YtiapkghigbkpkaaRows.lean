/-
  No cell of these rows narrows 'for every input' (looked for: loops, veiled, ifaces, maps, wideKeys, modest, calm, conditions, laid).
  DERIVED. THE GIVEN ROWS OF THIS SEAT. 8 by the template 'for every input the law returns true; each argument reads behind the call as it read before'; 0 by the template 'total and deterministic' (their statements: YtiapkghigbkpkaaTotals.lean).
  GIVEN WITH THE SEED: the statements are not yours to turn. If you find one false, say at which input.
  Laid BY PROGRAM, IN A SANDBOX (cutbox-rows.mjs): the forced cells as the released guide's own fill.sh prints them over the translation 9f1257c491d5aecd… (all of the seat's roots in one cut). By AI agents, Wed Nov 11 2026. No macro, syntax, notation, axiom, sorry.
-/
import Derived.Test.YtiapkghigbkpkaaChecked
import GoSem.Claim
import GoSem.ClaimJoined
import GoSem.ClaimMapViews
import Derived.JoinedTies
import Derived.KernelRfl
namespace Go.Proofs.Ytiapkghigbkpkaa
/- THE CELL 'sum', in the pinned program and in every row, IS THE sha256 OF THE DUMP (.gsa) THAT YtiapkghigbkpkaaProg.lean LOADS. Nothing in Lean hashes anything: it is a label: what it is worth is what the hold of that sum in a sandbox is worth. -/
noncomputable def Try.pinned : Pinned := { name := "ytiapkghigbkpkaa", sum := "9f1257c491d5aecd6696c270ce4600e6c2d57b31422af092a8c97dd044a275a3", checked := Try.checked }
namespace Rows
def none {H : Type} : Left H := { results := [], args := [] }

/-- 'laws.FnExactFlashTime': WHATEVER THE INPUT: true; the input reads as it did. -/
def fnExactFlashTimeSpec : ChangeSpec := { name := "fnExactFlashTime", fn := fun _ => fun
  | [d] => { results := [.lit (.bool true)], args := [d] }
  | _ => none }
def fnExactFlashTimeRow : OpenClaim := { program := "ytiapkghigbkpkaa", sum := "9f1257c491d5aecd6696c270ce4600e6c2d57b31422af092a8c97dd044a275a3", func := "loop.example/liftsandlights/laws.FnExactFlashTime", spec := "fnExactFlashTime", apart := false }
def FnExactFlashTimeSaid : Prop := fnExactFlashTimeRow.holds Try.pinned (OpenSpec.ofChange fnExactFlashTimeSpec)

/-- ITS FALSE NEIGHBOUR: 'it returns false'. Refute it at one input. -/
def fnExactFlashTimeWrong : ChangeSpec := { name := "fnExactFlashTime", fn := fun _ => fun
  | [d] => { results := [.lit (.bool false)], args := [d] }
  | _ => none }
def FnExactFlashTimeWrongFalsely : Prop := fnExactFlashTimeRow.holds Try.pinned (OpenSpec.ofChange fnExactFlashTimeWrong)

/-- 'laws.FnExactCrossedAt': WHATEVER THE INPUT: true; the input reads as it did. -/
def fnExactCrossedAtSpec : ChangeSpec := { name := "fnExactCrossedAt", fn := fun _ => fun
  | [d1, d2] => { results := [.lit (.bool true)], args := [d1, d2] }
  | _ => none }
def fnExactCrossedAtRow : OpenClaim := { program := "ytiapkghigbkpkaa", sum := "9f1257c491d5aecd6696c270ce4600e6c2d57b31422af092a8c97dd044a275a3", func := "loop.example/liftsandlights/laws.FnExactCrossedAt", spec := "fnExactCrossedAt", apart := false }
def FnExactCrossedAtSaid : Prop := fnExactCrossedAtRow.holds Try.pinned (OpenSpec.ofChange fnExactCrossedAtSpec)

/-- ITS FALSE NEIGHBOUR: 'it returns false'. Refute it at one input. -/
def fnExactCrossedAtWrong : ChangeSpec := { name := "fnExactCrossedAt", fn := fun _ => fun
  | [d1, d2] => { results := [.lit (.bool false)], args := [d1, d2] }
  | _ => none }
def FnExactCrossedAtWrongFalsely : Prop := fnExactCrossedAtRow.holds Try.pinned (OpenSpec.ofChange fnExactCrossedAtWrong)

/-- 'laws.FnExactStageFor': WHATEVER THE INPUT: true; the input reads as it did. -/
def fnExactStageForSpec : ChangeSpec := { name := "fnExactStageFor", fn := fun _ => fun
  | [d] => { results := [.lit (.bool true)], args := [d] }
  | _ => none }
def fnExactStageForRow : OpenClaim := { program := "ytiapkghigbkpkaa", sum := "9f1257c491d5aecd6696c270ce4600e6c2d57b31422af092a8c97dd044a275a3", func := "loop.example/liftsandlights/laws.FnExactStageFor", spec := "fnExactStageFor", apart := false }
def FnExactStageForSaid : Prop := fnExactStageForRow.holds Try.pinned (OpenSpec.ofChange fnExactStageForSpec)

/-- ITS FALSE NEIGHBOUR: 'it returns false'. Refute it at one input. -/
def fnExactStageForWrong : ChangeSpec := { name := "fnExactStageFor", fn := fun _ => fun
  | [d] => { results := [.lit (.bool false)], args := [d] }
  | _ => none }
def FnExactStageForWrongFalsely : Prop := fnExactStageForRow.holds Try.pinned (OpenSpec.ofChange fnExactStageForWrong)

/-- 'laws.FnExactSignAt': WHATEVER THE INPUT: true; the input reads as it did. -/
def fnExactSignAtSpec : ChangeSpec := { name := "fnExactSignAt", fn := fun _ => fun
  | [d1, d2] => { results := [.lit (.bool true)], args := [d1, d2] }
  | _ => none }
def fnExactSignAtRow : OpenClaim := { program := "ytiapkghigbkpkaa", sum := "9f1257c491d5aecd6696c270ce4600e6c2d57b31422af092a8c97dd044a275a3", func := "loop.example/liftsandlights/laws.FnExactSignAt", spec := "fnExactSignAt", apart := false }
def FnExactSignAtSaid : Prop := fnExactSignAtRow.holds Try.pinned (OpenSpec.ofChange fnExactSignAtSpec)

/-- ITS FALSE NEIGHBOUR: 'it returns false'. Refute it at one input. -/
def fnExactSignAtWrong : ChangeSpec := { name := "fnExactSignAt", fn := fun _ => fun
  | [d1, d2] => { results := [.lit (.bool false)], args := [d1, d2] }
  | _ => none }
def FnExactSignAtWrongFalsely : Prop := fnExactSignAtRow.holds Try.pinned (OpenSpec.ofChange fnExactSignAtWrong)

/-- 'laws.FnFlashTime': WHATEVER THE INPUT: true; the input reads as it did. -/
def fnFlashTimeSpec : ChangeSpec := { name := "fnFlashTime", fn := fun _ => fun
  | [d] => { results := [.lit (.bool true)], args := [d] }
  | _ => none }
def fnFlashTimeRow : OpenClaim := { program := "ytiapkghigbkpkaa", sum := "9f1257c491d5aecd6696c270ce4600e6c2d57b31422af092a8c97dd044a275a3", func := "loop.example/liftsandlights/laws.FnFlashTime", spec := "fnFlashTime", apart := false }
def FnFlashTimeSaid : Prop := fnFlashTimeRow.holds Try.pinned (OpenSpec.ofChange fnFlashTimeSpec)

/-- ITS FALSE NEIGHBOUR: 'it returns false'. Refute it at one input. -/
def fnFlashTimeWrong : ChangeSpec := { name := "fnFlashTime", fn := fun _ => fun
  | [d] => { results := [.lit (.bool false)], args := [d] }
  | _ => none }
def FnFlashTimeWrongFalsely : Prop := fnFlashTimeRow.holds Try.pinned (OpenSpec.ofChange fnFlashTimeWrong)

/-- 'laws.FnStageFor': WHATEVER THE INPUT: true; the input reads as it did. -/
def fnStageForSpec : ChangeSpec := { name := "fnStageFor", fn := fun _ => fun
  | [d] => { results := [.lit (.bool true)], args := [d] }
  | _ => none }
def fnStageForRow : OpenClaim := { program := "ytiapkghigbkpkaa", sum := "9f1257c491d5aecd6696c270ce4600e6c2d57b31422af092a8c97dd044a275a3", func := "loop.example/liftsandlights/laws.FnStageFor", spec := "fnStageFor", apart := false }
def FnStageForSaid : Prop := fnStageForRow.holds Try.pinned (OpenSpec.ofChange fnStageForSpec)

/-- ITS FALSE NEIGHBOUR: 'it returns false'. Refute it at one input. -/
def fnStageForWrong : ChangeSpec := { name := "fnStageFor", fn := fun _ => fun
  | [d] => { results := [.lit (.bool false)], args := [d] }
  | _ => none }
def FnStageForWrongFalsely : Prop := fnStageForRow.holds Try.pinned (OpenSpec.ofChange fnStageForWrong)

/-- 'laws.FnSignAt': WHATEVER THE INPUT: true; the input reads as it did. -/
def fnSignAtSpec : ChangeSpec := { name := "fnSignAt", fn := fun _ => fun
  | [d] => { results := [.lit (.bool true)], args := [d] }
  | _ => none }
def fnSignAtRow : OpenClaim := { program := "ytiapkghigbkpkaa", sum := "9f1257c491d5aecd6696c270ce4600e6c2d57b31422af092a8c97dd044a275a3", func := "loop.example/liftsandlights/laws.FnSignAt", spec := "fnSignAt", apart := false }
def FnSignAtSaid : Prop := fnSignAtRow.holds Try.pinned (OpenSpec.ofChange fnSignAtSpec)

/-- ITS FALSE NEIGHBOUR: 'it returns false'. Refute it at one input. -/
def fnSignAtWrong : ChangeSpec := { name := "fnSignAt", fn := fun _ => fun
  | [d] => { results := [.lit (.bool false)], args := [d] }
  | _ => none }
def FnSignAtWrongFalsely : Prop := fnSignAtRow.holds Try.pinned (OpenSpec.ofChange fnSignAtWrong)

/-- 'laws.FnCrossedAt': WHATEVER THE INPUT: true; the input reads as it did. -/
def fnCrossedAtSpec : ChangeSpec := { name := "fnCrossedAt", fn := fun _ => fun
  | [d] => { results := [.lit (.bool true)], args := [d] }
  | _ => none }
def fnCrossedAtRow : OpenClaim := { program := "ytiapkghigbkpkaa", sum := "9f1257c491d5aecd6696c270ce4600e6c2d57b31422af092a8c97dd044a275a3", func := "loop.example/liftsandlights/laws.FnCrossedAt", spec := "fnCrossedAt", apart := false }
def FnCrossedAtSaid : Prop := fnCrossedAtRow.holds Try.pinned (OpenSpec.ofChange fnCrossedAtSpec)

/-- ITS FALSE NEIGHBOUR: 'it returns false'. Refute it at one input. -/
def fnCrossedAtWrong : ChangeSpec := { name := "fnCrossedAt", fn := fun _ => fun
  | [d] => { results := [.lit (.bool false)], args := [d] }
  | _ => none }
def FnCrossedAtWrongFalsely : Prop := fnCrossedAtRow.holds Try.pinned (OpenSpec.ofChange fnCrossedAtWrong)

/- THE SECOND FORM. 'bulk': how many values and letters a reading holds, each counted each time it is reached (what is shared counts as often as it is met; a slice's spare places count too). A statement '..UptoSaid' is the law's where the arguments, and the package variables that the reading takes, are together of bulk at most 1048576: NARROWER than '..Said'. Prove '..Said' where nothing that the law and all that it calls make is longer than what came in: it says more and counts as full. Else prove '..UptoSaid'. A law counts once. -/
mutual
def uptoBulk {H : Type} : DataW H → Nat
  | .lit (.string bytes) => bytes.length + 1
  | .lit _ => 1
  | .nil => 1
  | .ptr d => uptoBulk d + 1
  | .slice elems spare => uptoBulkAll elems + uptoBulkAll spare + 1
  | .agg parts => uptoBulkAll parts + 1
  | .iface _ d => uptoBulk d + 1
  | .map entries => uptoBulkEntries entries + 1
  | .held _ => 1
def uptoBulkAll {H : Type} : List (DataW H) → Nat
  | [] => 0
  | d :: r => uptoBulk d + uptoBulkAll r
def uptoBulkEntries {H : Type} : List (Lit × DataW H) → Nat
  | [] => 0
  | x :: r => uptoBulkEntry x + uptoBulkEntries r
def uptoBulkEntry {H : Type} : Lit × DataW H → Nat
  | (.string bytes, d) => bytes.length + uptoBulk d + 1
  | (_, d) => uptoBulk d + 1
 end
def uptoSmall : (H : Type) → List (DataW H) → Bool := fun _ ds => decide (uptoBulkAll ds ≤ 1048576)
def OpenSpec.upto (s : _root_.Go.ChangeSpec) : _root_.Go.OpenSpec := { _root_.Go.OpenSpec.ofChange s with cond := some uptoSmall }

/-- 'laws.FnExactFlashTime', WHERE WHAT IT READS IS OF BULK AT MOST 1048576: true; the input reads as it did. -/
def fnExactFlashTimeUptoRow : OpenClaim := { program := "ytiapkghigbkpkaa", sum := "9f1257c491d5aecd6696c270ce4600e6c2d57b31422af092a8c97dd044a275a3", func := "loop.example/liftsandlights/laws.FnExactFlashTime", spec := "fnExactFlashTime", apart := false, narrowed := true }
def FnExactFlashTimeUptoSaid : Prop := fnExactFlashTimeUptoRow.holds Try.pinned (OpenSpec.upto fnExactFlashTimeSpec)

/-- 'laws.FnExactCrossedAt', WHERE WHAT IT READS IS OF BULK AT MOST 1048576: true; the input reads as it did. -/
def fnExactCrossedAtUptoRow : OpenClaim := { program := "ytiapkghigbkpkaa", sum := "9f1257c491d5aecd6696c270ce4600e6c2d57b31422af092a8c97dd044a275a3", func := "loop.example/liftsandlights/laws.FnExactCrossedAt", spec := "fnExactCrossedAt", apart := false, narrowed := true }
def FnExactCrossedAtUptoSaid : Prop := fnExactCrossedAtUptoRow.holds Try.pinned (OpenSpec.upto fnExactCrossedAtSpec)

/-- 'laws.FnExactStageFor', WHERE WHAT IT READS IS OF BULK AT MOST 1048576: true; the input reads as it did. -/
def fnExactStageForUptoRow : OpenClaim := { program := "ytiapkghigbkpkaa", sum := "9f1257c491d5aecd6696c270ce4600e6c2d57b31422af092a8c97dd044a275a3", func := "loop.example/liftsandlights/laws.FnExactStageFor", spec := "fnExactStageFor", apart := false, narrowed := true }
def FnExactStageForUptoSaid : Prop := fnExactStageForUptoRow.holds Try.pinned (OpenSpec.upto fnExactStageForSpec)

/-- 'laws.FnExactSignAt', WHERE WHAT IT READS IS OF BULK AT MOST 1048576: true; the input reads as it did. -/
def fnExactSignAtUptoRow : OpenClaim := { program := "ytiapkghigbkpkaa", sum := "9f1257c491d5aecd6696c270ce4600e6c2d57b31422af092a8c97dd044a275a3", func := "loop.example/liftsandlights/laws.FnExactSignAt", spec := "fnExactSignAt", apart := false, narrowed := true }
def FnExactSignAtUptoSaid : Prop := fnExactSignAtUptoRow.holds Try.pinned (OpenSpec.upto fnExactSignAtSpec)

/-- 'laws.FnFlashTime', WHERE WHAT IT READS IS OF BULK AT MOST 1048576: true; the input reads as it did. -/
def fnFlashTimeUptoRow : OpenClaim := { program := "ytiapkghigbkpkaa", sum := "9f1257c491d5aecd6696c270ce4600e6c2d57b31422af092a8c97dd044a275a3", func := "loop.example/liftsandlights/laws.FnFlashTime", spec := "fnFlashTime", apart := false, narrowed := true }
def FnFlashTimeUptoSaid : Prop := fnFlashTimeUptoRow.holds Try.pinned (OpenSpec.upto fnFlashTimeSpec)

/-- 'laws.FnStageFor', WHERE WHAT IT READS IS OF BULK AT MOST 1048576: true; the input reads as it did. -/
def fnStageForUptoRow : OpenClaim := { program := "ytiapkghigbkpkaa", sum := "9f1257c491d5aecd6696c270ce4600e6c2d57b31422af092a8c97dd044a275a3", func := "loop.example/liftsandlights/laws.FnStageFor", spec := "fnStageFor", apart := false, narrowed := true }
def FnStageForUptoSaid : Prop := fnStageForUptoRow.holds Try.pinned (OpenSpec.upto fnStageForSpec)

/-- 'laws.FnSignAt', WHERE WHAT IT READS IS OF BULK AT MOST 1048576: true; the input reads as it did. -/
def fnSignAtUptoRow : OpenClaim := { program := "ytiapkghigbkpkaa", sum := "9f1257c491d5aecd6696c270ce4600e6c2d57b31422af092a8c97dd044a275a3", func := "loop.example/liftsandlights/laws.FnSignAt", spec := "fnSignAt", apart := false, narrowed := true }
def FnSignAtUptoSaid : Prop := fnSignAtUptoRow.holds Try.pinned (OpenSpec.upto fnSignAtSpec)

/-- 'laws.FnCrossedAt', WHERE WHAT IT READS IS OF BULK AT MOST 1048576: true; the input reads as it did. -/
def fnCrossedAtUptoRow : OpenClaim := { program := "ytiapkghigbkpkaa", sum := "9f1257c491d5aecd6696c270ce4600e6c2d57b31422af092a8c97dd044a275a3", func := "loop.example/liftsandlights/laws.FnCrossedAt", spec := "fnCrossedAt", apart := false, narrowed := true }
def FnCrossedAtUptoSaid : Prop := fnCrossedAtUptoRow.holds Try.pinned (OpenSpec.upto fnCrossedAtSpec)

end Rows
end Go.Proofs.Ytiapkghigbkpkaa
