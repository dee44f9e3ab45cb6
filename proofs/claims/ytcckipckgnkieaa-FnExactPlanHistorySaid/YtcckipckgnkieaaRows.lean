/-
  No cell of these rows narrows 'for every input' (looked for: loops, veiled, ifaces, maps, wideKeys, modest, calm, conditions, laid).
  DERIVED. THE GIVEN ROWS OF THIS SEAT. 8 by the template 'for every input the law returns true; each argument reads behind the call as it read before'; 0 by the template 'total and deterministic' (their statements: YtcckipckgnkieaaTotals.lean).
  GIVEN WITH THE SEED: the statements are not yours to turn. If you find one false, say at which input.
  Laid BY PROGRAM, IN A SANDBOX (cutbox-rows.mjs): the forced cells as the released guide's own fill.sh prints them over the translation 2d024fe49daf7b4f… (all of the seat's roots in one cut). By AI agents, Wed Nov 11 2026. No macro, syntax, notation, axiom, sorry.
-/
import Derived.Test.YtcckipckgnkieaaChecked
import GoSem.Claim
import GoSem.ClaimJoined
import GoSem.ClaimMapViews
import Derived.JoinedTies
import Derived.KernelRfl
namespace Go.Proofs.Ytcckipckgnkieaa
/- THE CELL 'sum', in the pinned program and in every row, IS THE sha256 OF THE DUMP (.gsa) THAT YtcckipckgnkieaaProg.lean LOADS. Nothing in Lean hashes anything: it is a label: what it is worth is what the hold of that sum in a sandbox is worth. -/
noncomputable def Try.pinned : Pinned := { name := "ytcckipckgnkieaa", sum := "2d024fe49daf7b4f70742d7ff0ca351bb3680721a23bf30a3d0437becfbb7d05", checked := Try.checked }
namespace Rows
def none {H : Type} : Left H := { results := [], args := [] }

/-- 'laws.FnPlanHistory': WHATEVER THE INPUT: true; the input reads as it did. -/
def fnPlanHistorySpec : ChangeSpec := { name := "fnPlanHistory", fn := fun _ => fun
  | [d] => { results := [.lit (.bool true)], args := [d] }
  | _ => none }
def fnPlanHistoryRow : OpenClaim := { program := "ytcckipckgnkieaa", sum := "2d024fe49daf7b4f70742d7ff0ca351bb3680721a23bf30a3d0437becfbb7d05", func := "loop.example/liftsandlights/laws.FnPlanHistory", spec := "fnPlanHistory", apart := false }
def FnPlanHistorySaid : Prop := fnPlanHistoryRow.holds Try.pinned (OpenSpec.ofChange fnPlanHistorySpec)

/-- ITS FALSE NEIGHBOUR: 'it returns false'. Refute it at one input. -/
def fnPlanHistoryWrong : ChangeSpec := { name := "fnPlanHistory", fn := fun _ => fun
  | [d] => { results := [.lit (.bool false)], args := [d] }
  | _ => none }
def FnPlanHistoryWrongFalsely : Prop := fnPlanHistoryRow.holds Try.pinned (OpenSpec.ofChange fnPlanHistoryWrong)

/-- 'laws.FnExactPlanHistory': WHATEVER THE INPUT: true; the input reads as it did. -/
def fnExactPlanHistorySpec : ChangeSpec := { name := "fnExactPlanHistory", fn := fun _ => fun
  | [d1, d2, d3] => { results := [.lit (.bool true)], args := [d1, d2, d3] }
  | _ => none }
def fnExactPlanHistoryRow : OpenClaim := { program := "ytcckipckgnkieaa", sum := "2d024fe49daf7b4f70742d7ff0ca351bb3680721a23bf30a3d0437becfbb7d05", func := "loop.example/liftsandlights/laws.FnExactPlanHistory", spec := "fnExactPlanHistory", apart := false }
def FnExactPlanHistorySaid : Prop := fnExactPlanHistoryRow.holds Try.pinned (OpenSpec.ofChange fnExactPlanHistorySpec)

/-- ITS FALSE NEIGHBOUR: 'it returns false'. Refute it at one input. -/
def fnExactPlanHistoryWrong : ChangeSpec := { name := "fnExactPlanHistory", fn := fun _ => fun
  | [d1, d2, d3] => { results := [.lit (.bool false)], args := [d1, d2, d3] }
  | _ => none }
def FnExactPlanHistoryWrongFalsely : Prop := fnExactPlanHistoryRow.holds Try.pinned (OpenSpec.ofChange fnExactPlanHistoryWrong)

/-- 'laws.FnFirstFaultPlan': WHATEVER THE INPUT: true; the input reads as it did. -/
def fnFirstFaultPlanSpec : ChangeSpec := { name := "fnFirstFaultPlan", fn := fun _ => fun
  | [d] => { results := [.lit (.bool true)], args := [d] }
  | _ => none }
def fnFirstFaultPlanRow : OpenClaim := { program := "ytcckipckgnkieaa", sum := "2d024fe49daf7b4f70742d7ff0ca351bb3680721a23bf30a3d0437becfbb7d05", func := "loop.example/liftsandlights/laws.FnFirstFaultPlan", spec := "fnFirstFaultPlan", apart := false }
def FnFirstFaultPlanSaid : Prop := fnFirstFaultPlanRow.holds Try.pinned (OpenSpec.ofChange fnFirstFaultPlanSpec)

/-- ITS FALSE NEIGHBOUR: 'it returns false'. Refute it at one input. -/
def fnFirstFaultPlanWrong : ChangeSpec := { name := "fnFirstFaultPlan", fn := fun _ => fun
  | [d] => { results := [.lit (.bool false)], args := [d] }
  | _ => none }
def FnFirstFaultPlanWrongFalsely : Prop := fnFirstFaultPlanRow.holds Try.pinned (OpenSpec.ofChange fnFirstFaultPlanWrong)

/-- 'laws.FnExactFirstFault': WHATEVER THE INPUT: true; the input reads as it did. -/
def fnExactFirstFaultSpec : ChangeSpec := { name := "fnExactFirstFault", fn := fun _ => fun
  | [d1, d2] => { results := [.lit (.bool true)], args := [d1, d2] }
  | _ => none }
def fnExactFirstFaultRow : OpenClaim := { program := "ytcckipckgnkieaa", sum := "2d024fe49daf7b4f70742d7ff0ca351bb3680721a23bf30a3d0437becfbb7d05", func := "loop.example/liftsandlights/laws.FnExactFirstFault", spec := "fnExactFirstFault", apart := false }
def FnExactFirstFaultSaid : Prop := fnExactFirstFaultRow.holds Try.pinned (OpenSpec.ofChange fnExactFirstFaultSpec)

/-- ITS FALSE NEIGHBOUR: 'it returns false'. Refute it at one input. -/
def fnExactFirstFaultWrong : ChangeSpec := { name := "fnExactFirstFault", fn := fun _ => fun
  | [d1, d2] => { results := [.lit (.bool false)], args := [d1, d2] }
  | _ => none }
def FnExactFirstFaultWrongFalsely : Prop := fnExactFirstFaultRow.holds Try.pinned (OpenSpec.ofChange fnExactFirstFaultWrong)

/-- 'laws.FnExactGuardHistory': WHATEVER THE INPUT: true; the input reads as it did. -/
def fnExactGuardHistorySpec : ChangeSpec := { name := "fnExactGuardHistory", fn := fun _ => fun
  | [d1, d2] => { results := [.lit (.bool true)], args := [d1, d2] }
  | _ => none }
def fnExactGuardHistoryRow : OpenClaim := { program := "ytcckipckgnkieaa", sum := "2d024fe49daf7b4f70742d7ff0ca351bb3680721a23bf30a3d0437becfbb7d05", func := "loop.example/liftsandlights/laws.FnExactGuardHistory", spec := "fnExactGuardHistory", apart := false }
def FnExactGuardHistorySaid : Prop := fnExactGuardHistoryRow.holds Try.pinned (OpenSpec.ofChange fnExactGuardHistorySpec)

/-- ITS FALSE NEIGHBOUR: 'it returns false'. Refute it at one input. -/
def fnExactGuardHistoryWrong : ChangeSpec := { name := "fnExactGuardHistory", fn := fun _ => fun
  | [d1, d2] => { results := [.lit (.bool false)], args := [d1, d2] }
  | _ => none }
def FnExactGuardHistoryWrongFalsely : Prop := fnExactGuardHistoryRow.holds Try.pinned (OpenSpec.ofChange fnExactGuardHistoryWrong)

/-- 'laws.FnFirstFault': WHATEVER THE INPUT: true; the input reads as it did. -/
def fnFirstFaultSpec : ChangeSpec := { name := "fnFirstFault", fn := fun _ => fun
  | [d] => { results := [.lit (.bool true)], args := [d] }
  | _ => none }
def fnFirstFaultRow : OpenClaim := { program := "ytcckipckgnkieaa", sum := "2d024fe49daf7b4f70742d7ff0ca351bb3680721a23bf30a3d0437becfbb7d05", func := "loop.example/liftsandlights/laws.FnFirstFault", spec := "fnFirstFault", apart := false }
def FnFirstFaultSaid : Prop := fnFirstFaultRow.holds Try.pinned (OpenSpec.ofChange fnFirstFaultSpec)

/-- ITS FALSE NEIGHBOUR: 'it returns false'. Refute it at one input. -/
def fnFirstFaultWrong : ChangeSpec := { name := "fnFirstFault", fn := fun _ => fun
  | [d] => { results := [.lit (.bool false)], args := [d] }
  | _ => none }
def FnFirstFaultWrongFalsely : Prop := fnFirstFaultRow.holds Try.pinned (OpenSpec.ofChange fnFirstFaultWrong)

/-- 'laws.FnFirstFaultRed': WHATEVER THE INPUT: true; the input reads as it did. -/
def fnFirstFaultRedSpec : ChangeSpec := { name := "fnFirstFaultRed", fn := fun _ => fun
  | [d] => { results := [.lit (.bool true)], args := [d] }
  | _ => none }
def fnFirstFaultRedRow : OpenClaim := { program := "ytcckipckgnkieaa", sum := "2d024fe49daf7b4f70742d7ff0ca351bb3680721a23bf30a3d0437becfbb7d05", func := "loop.example/liftsandlights/laws.FnFirstFaultRed", spec := "fnFirstFaultRed", apart := false }
def FnFirstFaultRedSaid : Prop := fnFirstFaultRedRow.holds Try.pinned (OpenSpec.ofChange fnFirstFaultRedSpec)

/-- ITS FALSE NEIGHBOUR: 'it returns false'. Refute it at one input. -/
def fnFirstFaultRedWrong : ChangeSpec := { name := "fnFirstFaultRed", fn := fun _ => fun
  | [d] => { results := [.lit (.bool false)], args := [d] }
  | _ => none }
def FnFirstFaultRedWrongFalsely : Prop := fnFirstFaultRedRow.holds Try.pinned (OpenSpec.ofChange fnFirstFaultRedWrong)

/-- 'laws.FnGuardHistory': WHATEVER THE INPUT: true; the input reads as it did. -/
def fnGuardHistorySpec : ChangeSpec := { name := "fnGuardHistory", fn := fun _ => fun
  | [d] => { results := [.lit (.bool true)], args := [d] }
  | _ => none }
def fnGuardHistoryRow : OpenClaim := { program := "ytcckipckgnkieaa", sum := "2d024fe49daf7b4f70742d7ff0ca351bb3680721a23bf30a3d0437becfbb7d05", func := "loop.example/liftsandlights/laws.FnGuardHistory", spec := "fnGuardHistory", apart := false }
def FnGuardHistorySaid : Prop := fnGuardHistoryRow.holds Try.pinned (OpenSpec.ofChange fnGuardHistorySpec)

/-- ITS FALSE NEIGHBOUR: 'it returns false'. Refute it at one input. -/
def fnGuardHistoryWrong : ChangeSpec := { name := "fnGuardHistory", fn := fun _ => fun
  | [d] => { results := [.lit (.bool false)], args := [d] }
  | _ => none }
def FnGuardHistoryWrongFalsely : Prop := fnGuardHistoryRow.holds Try.pinned (OpenSpec.ofChange fnGuardHistoryWrong)

/- THE SECOND FORM. 'bulk': how many values and letters a reading holds, each counted each time it is reached (what is shared counts as often as it is met; a slice's spare places count too). A statement '..UptoSaid' is the law's where the arguments, and the package variables that the reading takes, are together of bulk at most 1048576: NARROWER than '..Said'. Prove '..Said' where nothing that the law and all that it calls make is longer than what came in: it says more and counts as full. Else prove '..UptoSaid'. A law counts once. -/
mutual
def uptoBulk {H : Type} : DataW H → Nat
  | .lit (.string bytes) => bytes.length + 1
  | .lit _ => 1
  | .nil => 1
  | .ptr d => uptoBulk d + 1
  | .slice elems spare => uptoBulkAll elems + uptoBulkAll spare + 1
  | .agg parts => uptoBulkAll parts + 1
  | .iface _ d => uptoBulk d + 1
  | .map entries => uptoBulkEntries entries + 1
  | .held _ => 1
def uptoBulkAll {H : Type} : List (DataW H) → Nat
  | [] => 0
  | d :: r => uptoBulk d + uptoBulkAll r
def uptoBulkEntries {H : Type} : List (Lit × DataW H) → Nat
  | [] => 0
  | x :: r => uptoBulkEntry x + uptoBulkEntries r
def uptoBulkEntry {H : Type} : Lit × DataW H → Nat
  | (.string bytes, d) => bytes.length + uptoBulk d + 1
  | (_, d) => uptoBulk d + 1
 end
def uptoSmall : (H : Type) → List (DataW H) → Bool := fun _ ds => decide (uptoBulkAll ds ≤ 1048576)
def OpenSpec.upto (s : _root_.Go.ChangeSpec) : _root_.Go.OpenSpec := { _root_.Go.OpenSpec.ofChange s with cond := some uptoSmall }

/-- 'laws.FnPlanHistory', WHERE WHAT IT READS IS OF BULK AT MOST 1048576: true; the input reads as it did. -/
def fnPlanHistoryUptoRow : OpenClaim := { program := "ytcckipckgnkieaa", sum := "2d024fe49daf7b4f70742d7ff0ca351bb3680721a23bf30a3d0437becfbb7d05", func := "loop.example/liftsandlights/laws.FnPlanHistory", spec := "fnPlanHistory", apart := false, narrowed := true }
def FnPlanHistoryUptoSaid : Prop := fnPlanHistoryUptoRow.holds Try.pinned (OpenSpec.upto fnPlanHistorySpec)

/-- 'laws.FnExactPlanHistory', WHERE WHAT IT READS IS OF BULK AT MOST 1048576: true; the input reads as it did. -/
def fnExactPlanHistoryUptoRow : OpenClaim := { program := "ytcckipckgnkieaa", sum := "2d024fe49daf7b4f70742d7ff0ca351bb3680721a23bf30a3d0437becfbb7d05", func := "loop.example/liftsandlights/laws.FnExactPlanHistory", spec := "fnExactPlanHistory", apart := false, narrowed := true }
def FnExactPlanHistoryUptoSaid : Prop := fnExactPlanHistoryUptoRow.holds Try.pinned (OpenSpec.upto fnExactPlanHistorySpec)

/-- 'laws.FnFirstFaultPlan', WHERE WHAT IT READS IS OF BULK AT MOST 1048576: true; the input reads as it did. -/
def fnFirstFaultPlanUptoRow : OpenClaim := { program := "ytcckipckgnkieaa", sum := "2d024fe49daf7b4f70742d7ff0ca351bb3680721a23bf30a3d0437becfbb7d05", func := "loop.example/liftsandlights/laws.FnFirstFaultPlan", spec := "fnFirstFaultPlan", apart := false, narrowed := true }
def FnFirstFaultPlanUptoSaid : Prop := fnFirstFaultPlanUptoRow.holds Try.pinned (OpenSpec.upto fnFirstFaultPlanSpec)

/-- 'laws.FnExactFirstFault', WHERE WHAT IT READS IS OF BULK AT MOST 1048576: true; the input reads as it did. -/
def fnExactFirstFaultUptoRow : OpenClaim := { program := "ytcckipckgnkieaa", sum := "2d024fe49daf7b4f70742d7ff0ca351bb3680721a23bf30a3d0437becfbb7d05", func := "loop.example/liftsandlights/laws.FnExactFirstFault", spec := "fnExactFirstFault", apart := false, narrowed := true }
def FnExactFirstFaultUptoSaid : Prop := fnExactFirstFaultUptoRow.holds Try.pinned (OpenSpec.upto fnExactFirstFaultSpec)

/-- 'laws.FnExactGuardHistory', WHERE WHAT IT READS IS OF BULK AT MOST 1048576: true; the input reads as it did. -/
def fnExactGuardHistoryUptoRow : OpenClaim := { program := "ytcckipckgnkieaa", sum := "2d024fe49daf7b4f70742d7ff0ca351bb3680721a23bf30a3d0437becfbb7d05", func := "loop.example/liftsandlights/laws.FnExactGuardHistory", spec := "fnExactGuardHistory", apart := false, narrowed := true }
def FnExactGuardHistoryUptoSaid : Prop := fnExactGuardHistoryUptoRow.holds Try.pinned (OpenSpec.upto fnExactGuardHistorySpec)

/-- 'laws.FnFirstFault', WHERE WHAT IT READS IS OF BULK AT MOST 1048576: true; the input reads as it did. -/
def fnFirstFaultUptoRow : OpenClaim := { program := "ytcckipckgnkieaa", sum := "2d024fe49daf7b4f70742d7ff0ca351bb3680721a23bf30a3d0437becfbb7d05", func := "loop.example/liftsandlights/laws.FnFirstFault", spec := "fnFirstFault", apart := false, narrowed := true }
def FnFirstFaultUptoSaid : Prop := fnFirstFaultUptoRow.holds Try.pinned (OpenSpec.upto fnFirstFaultSpec)

/-- 'laws.FnFirstFaultRed', WHERE WHAT IT READS IS OF BULK AT MOST 1048576: true; the input reads as it did. -/
def fnFirstFaultRedUptoRow : OpenClaim := { program := "ytcckipckgnkieaa", sum := "2d024fe49daf7b4f70742d7ff0ca351bb3680721a23bf30a3d0437becfbb7d05", func := "loop.example/liftsandlights/laws.FnFirstFaultRed", spec := "fnFirstFaultRed", apart := false, narrowed := true }
def FnFirstFaultRedUptoSaid : Prop := fnFirstFaultRedUptoRow.holds Try.pinned (OpenSpec.upto fnFirstFaultRedSpec)

/-- 'laws.FnGuardHistory', WHERE WHAT IT READS IS OF BULK AT MOST 1048576: true; the input reads as it did. -/
def fnGuardHistoryUptoRow : OpenClaim := { program := "ytcckipckgnkieaa", sum := "2d024fe49daf7b4f70742d7ff0ca351bb3680721a23bf30a3d0437becfbb7d05", func := "loop.example/liftsandlights/laws.FnGuardHistory", spec := "fnGuardHistory", apart := false, narrowed := true }
def FnGuardHistoryUptoSaid : Prop := fnGuardHistoryUptoRow.holds Try.pinned (OpenSpec.upto fnGuardHistorySpec)

end Rows
end Go.Proofs.Ytcckipckgnkieaa
