/-
  No cell of these rows narrows 'for every input' (looked for: loops, veiled, ifaces, maps, wideKeys, modest, calm, conditions, laid).
  DERIVED. THE GIVEN ROWS OF THIS SEAT. 3 by the template 'for every input the law returns true; each argument reads behind the call as it read before'; 0 by the template 'total and deterministic' (their statements: YtcgcjjpkcaljgaaTotals.lean).
  GIVEN WITH THE SEED: the statements are not yours to turn. If you find one false, say at which input.
  Laid BY PROGRAM, IN A SANDBOX (cutbox-rows.mjs): the forced cells as the released guide's own fill.sh prints them over the translation 13334ef00f0857f9… (all of the seat's roots in one cut). By AI agents, Wed Nov 11 2026. No macro, syntax, notation, axiom, sorry.
-/
import Derived.Test.YtcgcjjpkcaljgaaChecked
import GoSem.Claim
import GoSem.ClaimJoined
import GoSem.ClaimMapViews
import Derived.JoinedTies
import Derived.KernelRfl
namespace Go.Proofs.Ytcgcjjpkcaljgaa
/- THE CELL 'sum', in the pinned program and in every row, IS THE sha256 OF THE DUMP (.gsa) THAT YtcgcjjpkcaljgaaProg.lean LOADS. Nothing in Lean hashes anything: it is a label: what it is worth is what the hold of that sum in a sandbox is worth. -/
noncomputable def Try.pinned : Pinned := { name := "ytcgcjjpkcaljgaa", sum := "13334ef00f0857f9cd47ed1f1cb1f02e66e89937e97a48f0293f23d7220ba0b3", checked := Try.checked }
namespace Rows
def none {H : Type} : Left H := { results := [], args := [] }

/-- 'laws.FnGreensOf': WHATEVER THE INPUT: true; the input reads as it did. -/
def fnGreensOfSpec : ChangeSpec := { name := "fnGreensOf", fn := fun _ => fun
  | [d] => { results := [.lit (.bool true)], args := [d] }
  | _ => none }
def fnGreensOfRow : OpenClaim := { program := "ytcgcjjpkcaljgaa", sum := "13334ef00f0857f9cd47ed1f1cb1f02e66e89937e97a48f0293f23d7220ba0b3", func := "loop.example/liftsandlights/laws.FnGreensOf", spec := "fnGreensOf", apart := false }
def FnGreensOfSaid : Prop := fnGreensOfRow.holds Try.pinned (OpenSpec.ofChange fnGreensOfSpec)

/-- ITS FALSE NEIGHBOUR: 'it returns false'. Refute it at one input. -/
def fnGreensOfWrong : ChangeSpec := { name := "fnGreensOf", fn := fun _ => fun
  | [d] => { results := [.lit (.bool false)], args := [d] }
  | _ => none }
def FnGreensOfWrongFalsely : Prop := fnGreensOfRow.holds Try.pinned (OpenSpec.ofChange fnGreensOfWrong)

/-- 'laws.FnFirstBadLamp': WHATEVER THE INPUT: true; the input reads as it did. -/
def fnFirstBadLampSpec : ChangeSpec := { name := "fnFirstBadLamp", fn := fun _ => fun
  | [d] => { results := [.lit (.bool true)], args := [d] }
  | _ => none }
def fnFirstBadLampRow : OpenClaim := { program := "ytcgcjjpkcaljgaa", sum := "13334ef00f0857f9cd47ed1f1cb1f02e66e89937e97a48f0293f23d7220ba0b3", func := "loop.example/liftsandlights/laws.FnFirstBadLamp", spec := "fnFirstBadLamp", apart := false }
def FnFirstBadLampSaid : Prop := fnFirstBadLampRow.holds Try.pinned (OpenSpec.ofChange fnFirstBadLampSpec)

/-- ITS FALSE NEIGHBOUR: 'it returns false'. Refute it at one input. -/
def fnFirstBadLampWrong : ChangeSpec := { name := "fnFirstBadLamp", fn := fun _ => fun
  | [d] => { results := [.lit (.bool false)], args := [d] }
  | _ => none }
def FnFirstBadLampWrongFalsely : Prop := fnFirstBadLampRow.holds Try.pinned (OpenSpec.ofChange fnFirstBadLampWrong)

/-- 'laws.FnLampsOf': WHATEVER THE INPUT: true; the input reads as it did. -/
def fnLampsOfSpec : ChangeSpec := { name := "fnLampsOf", fn := fun _ => fun
  | [d] => { results := [.lit (.bool true)], args := [d] }
  | _ => none }
def fnLampsOfRow : OpenClaim := { program := "ytcgcjjpkcaljgaa", sum := "13334ef00f0857f9cd47ed1f1cb1f02e66e89937e97a48f0293f23d7220ba0b3", func := "loop.example/liftsandlights/laws.FnLampsOf", spec := "fnLampsOf", inPlace := ["internal/abi.NoEscape"], apart := false }
def FnLampsOfSaid : Prop := fnLampsOfRow.holds Try.pinned (OpenSpec.ofChange fnLampsOfSpec)

/-- ITS FALSE NEIGHBOUR: 'it returns false'. Refute it at one input. -/
def fnLampsOfWrong : ChangeSpec := { name := "fnLampsOf", fn := fun _ => fun
  | [d] => { results := [.lit (.bool false)], args := [d] }
  | _ => none }
def FnLampsOfWrongFalsely : Prop := fnLampsOfRow.holds Try.pinned (OpenSpec.ofChange fnLampsOfWrong)

/- THE SECOND FORM. 'bulk': how many values and letters a reading holds, each counted each time it is reached (what is shared counts as often as it is met; a slice's spare places count too). A statement '..UptoSaid' is the law's where the arguments, and the package variables that the reading takes, are together of bulk at most 1048576: NARROWER than '..Said'. Prove '..Said' where nothing that the law and all that it calls make is longer than what came in: it says more and counts as full. Else prove '..UptoSaid'. A law counts once. -/
mutual
def uptoBulk {H : Type} : DataW H → Nat
  | .lit (.string bytes) => bytes.length + 1
  | .lit _ => 1
  | .nil => 1
  | .ptr d => uptoBulk d + 1
  | .slice elems spare => uptoBulkAll elems + uptoBulkAll spare + 1
  | .agg parts => uptoBulkAll parts + 1
  | .iface _ d => uptoBulk d + 1
  | .map entries => uptoBulkEntries entries + 1
  | .held _ => 1
def uptoBulkAll {H : Type} : List (DataW H) → Nat
  | [] => 0
  | d :: r => uptoBulk d + uptoBulkAll r
def uptoBulkEntries {H : Type} : List (Lit × DataW H) → Nat
  | [] => 0
  | x :: r => uptoBulkEntry x + uptoBulkEntries r
def uptoBulkEntry {H : Type} : Lit × DataW H → Nat
  | (.string bytes, d) => bytes.length + uptoBulk d + 1
  | (_, d) => uptoBulk d + 1
 end
def uptoSmall : (H : Type) → List (DataW H) → Bool := fun _ ds => decide (uptoBulkAll ds ≤ 1048576)
def OpenSpec.upto (s : _root_.Go.ChangeSpec) : _root_.Go.OpenSpec := { _root_.Go.OpenSpec.ofChange s with cond := some uptoSmall }

/-- 'laws.FnGreensOf', WHERE WHAT IT READS IS OF BULK AT MOST 1048576: true; the input reads as it did. -/
def fnGreensOfUptoRow : OpenClaim := { program := "ytcgcjjpkcaljgaa", sum := "13334ef00f0857f9cd47ed1f1cb1f02e66e89937e97a48f0293f23d7220ba0b3", func := "loop.example/liftsandlights/laws.FnGreensOf", spec := "fnGreensOf", apart := false, narrowed := true }
def FnGreensOfUptoSaid : Prop := fnGreensOfUptoRow.holds Try.pinned (OpenSpec.upto fnGreensOfSpec)

/-- 'laws.FnFirstBadLamp', WHERE WHAT IT READS IS OF BULK AT MOST 1048576: true; the input reads as it did. -/
def fnFirstBadLampUptoRow : OpenClaim := { program := "ytcgcjjpkcaljgaa", sum := "13334ef00f0857f9cd47ed1f1cb1f02e66e89937e97a48f0293f23d7220ba0b3", func := "loop.example/liftsandlights/laws.FnFirstBadLamp", spec := "fnFirstBadLamp", apart := false, narrowed := true }
def FnFirstBadLampUptoSaid : Prop := fnFirstBadLampUptoRow.holds Try.pinned (OpenSpec.upto fnFirstBadLampSpec)

/-- 'laws.FnLampsOf', WHERE WHAT IT READS IS OF BULK AT MOST 1048576: true; the input reads as it did. -/
def fnLampsOfUptoRow : OpenClaim := { program := "ytcgcjjpkcaljgaa", sum := "13334ef00f0857f9cd47ed1f1cb1f02e66e89937e97a48f0293f23d7220ba0b3", func := "loop.example/liftsandlights/laws.FnLampsOf", spec := "fnLampsOf", inPlace := ["internal/abi.NoEscape"], apart := false, narrowed := true }
def FnLampsOfUptoSaid : Prop := fnLampsOfUptoRow.holds Try.pinned (OpenSpec.upto fnLampsOfSpec)

end Rows
end Go.Proofs.Ytcgcjjpkcaljgaa
