/-
  No cell of these rows narrows 'for every input' (looked for: loops, veiled, ifaces, maps, wideKeys, modest, calm, conditions, laid).
  DERIVED. THE GIVEN ROWS OF THIS SEAT. 12 by the template 'for every input the law returns true; each argument reads behind the call as it read before'; 0 by the template 'total and deterministic' (their statements: YtmnapeefclkldaaTotals.lean).
  GIVEN WITH THE SEED: the statements are not yours to turn. If you find one false, say at which input.
  Laid BY PROGRAM, IN A SANDBOX (cutbox-rows.mjs): the forced cells as the released guide's own fill.sh prints them over the translation 1a1a688f929574de… (all of the seat's roots in one cut). By AI agents, Wed Nov 11 2026. No macro, syntax, notation, axiom, sorry.
-/
import Derived.Test.YtmnapeefclkldaaChecked
import GoSem.Claim
import GoSem.ClaimJoined
import GoSem.ClaimMapViews
import Derived.JoinedTies
import Derived.KernelRfl
namespace Go.Proofs.Ytmnapeefclkldaa
/- THE CELL 'sum', in the pinned program and in every row, IS THE sha256 OF THE DUMP (.gsa) THAT YtmnapeefclkldaaProg.lean LOADS. Nothing in Lean hashes anything: it is a label: what it is worth is what the hold of that sum in a sandbox is worth. -/
noncomputable def Try.pinned : Pinned := { name := "ytmnapeefclkldaa", sum := "1a1a688f929574deec22317742e663869f81b31dfb46d51e9fc1398165ddaeb7", checked := Try.checked }
namespace Rows
def none {H : Type} : Left H := { results := [], args := [] }

/-- 'laws.FnExactPassesStreet': WHATEVER THE INPUT: true; the input reads as it did. -/
def fnExactPassesStreetSpec : ChangeSpec := { name := "fnExactPassesStreet", fn := fun _ => fun
  | [d1, d2, d3] => { results := [.lit (.bool true)], args := [d1, d2, d3] }
  | _ => none }
def fnExactPassesStreetRow : OpenClaim := { program := "ytmnapeefclkldaa", sum := "1a1a688f929574deec22317742e663869f81b31dfb46d51e9fc1398165ddaeb7", func := "loop.example/liftsandlights/laws.FnExactPassesStreet", spec := "fnExactPassesStreet", apart := false }
def FnExactPassesStreetSaid : Prop := fnExactPassesStreetRow.holds Try.pinned (OpenSpec.ofChange fnExactPassesStreetSpec)

/-- ITS FALSE NEIGHBOUR: 'it returns false'. Refute it at one input. -/
def fnExactPassesStreetWrong : ChangeSpec := { name := "fnExactPassesStreet", fn := fun _ => fun
  | [d1, d2, d3] => { results := [.lit (.bool false)], args := [d1, d2, d3] }
  | _ => none }
def FnExactPassesStreetWrongFalsely : Prop := fnExactPassesStreetRow.holds Try.pinned (OpenSpec.ofChange fnExactPassesStreetWrong)

/-- 'laws.FnExactWaveOffsets': WHATEVER THE INPUT: true; the input reads as it did. -/
def fnExactWaveOffsetsSpec : ChangeSpec := { name := "fnExactWaveOffsets", fn := fun _ => fun
  | [d] => { results := [.lit (.bool true)], args := [d] }
  | _ => none }
def fnExactWaveOffsetsRow : OpenClaim := { program := "ytmnapeefclkldaa", sum := "1a1a688f929574deec22317742e663869f81b31dfb46d51e9fc1398165ddaeb7", func := "loop.example/liftsandlights/laws.FnExactWaveOffsets", spec := "fnExactWaveOffsets", apart := false }
def FnExactWaveOffsetsSaid : Prop := fnExactWaveOffsetsRow.holds Try.pinned (OpenSpec.ofChange fnExactWaveOffsetsSpec)

/-- ITS FALSE NEIGHBOUR: 'it returns false'. Refute it at one input. -/
def fnExactWaveOffsetsWrong : ChangeSpec := { name := "fnExactWaveOffsets", fn := fun _ => fun
  | [d] => { results := [.lit (.bool false)], args := [d] }
  | _ => none }
def FnExactWaveOffsetsWrongFalsely : Prop := fnExactWaveOffsetsRow.holds Try.pinned (OpenSpec.ofChange fnExactWaveOffsetsWrong)

/-- 'laws.FnExactBandOf': WHATEVER THE INPUT: true; the input reads as it did. -/
def fnExactBandOfSpec : ChangeSpec := { name := "fnExactBandOf", fn := fun _ => fun
  | [d1, d2] => { results := [.lit (.bool true)], args := [d1, d2] }
  | _ => none }
def fnExactBandOfRow : OpenClaim := { program := "ytmnapeefclkldaa", sum := "1a1a688f929574deec22317742e663869f81b31dfb46d51e9fc1398165ddaeb7", func := "loop.example/liftsandlights/laws.FnExactBandOf", spec := "fnExactBandOf", apart := false }
def FnExactBandOfSaid : Prop := fnExactBandOfRow.holds Try.pinned (OpenSpec.ofChange fnExactBandOfSpec)

/-- ITS FALSE NEIGHBOUR: 'it returns false'. Refute it at one input. -/
def fnExactBandOfWrong : ChangeSpec := { name := "fnExactBandOf", fn := fun _ => fun
  | [d1, d2] => { results := [.lit (.bool false)], args := [d1, d2] }
  | _ => none }
def FnExactBandOfWrongFalsely : Prop := fnExactBandOfRow.holds Try.pinned (OpenSpec.ofChange fnExactBandOfWrong)

/-- 'laws.FnWaveOffsets': WHATEVER THE INPUT: true; the input reads as it did. -/
def fnWaveOffsetsSpec : ChangeSpec := { name := "fnWaveOffsets", fn := fun _ => fun
  | [d] => { results := [.lit (.bool true)], args := [d] }
  | _ => none }
def fnWaveOffsetsRow : OpenClaim := { program := "ytmnapeefclkldaa", sum := "1a1a688f929574deec22317742e663869f81b31dfb46d51e9fc1398165ddaeb7", func := "loop.example/liftsandlights/laws.FnWaveOffsets", spec := "fnWaveOffsets", apart := false }
def FnWaveOffsetsSaid : Prop := fnWaveOffsetsRow.holds Try.pinned (OpenSpec.ofChange fnWaveOffsetsSpec)

/-- ITS FALSE NEIGHBOUR: 'it returns false'. Refute it at one input. -/
def fnWaveOffsetsWrong : ChangeSpec := { name := "fnWaveOffsets", fn := fun _ => fun
  | [d] => { results := [.lit (.bool false)], args := [d] }
  | _ => none }
def FnWaveOffsetsWrongFalsely : Prop := fnWaveOffsetsRow.holds Try.pinned (OpenSpec.ofChange fnWaveOffsetsWrong)

/-- 'laws.FnPassesStreet': WHATEVER THE INPUT: true; the input reads as it did. -/
def fnPassesStreetSpec : ChangeSpec := { name := "fnPassesStreet", fn := fun _ => fun
  | [d] => { results := [.lit (.bool true)], args := [d] }
  | _ => none }
def fnPassesStreetRow : OpenClaim := { program := "ytmnapeefclkldaa", sum := "1a1a688f929574deec22317742e663869f81b31dfb46d51e9fc1398165ddaeb7", func := "loop.example/liftsandlights/laws.FnPassesStreet", spec := "fnPassesStreet", apart := false }
def FnPassesStreetSaid : Prop := fnPassesStreetRow.holds Try.pinned (OpenSpec.ofChange fnPassesStreetSpec)

/-- ITS FALSE NEIGHBOUR: 'it returns false'. Refute it at one input. -/
def fnPassesStreetWrong : ChangeSpec := { name := "fnPassesStreet", fn := fun _ => fun
  | [d] => { results := [.lit (.bool false)], args := [d] }
  | _ => none }
def FnPassesStreetWrongFalsely : Prop := fnPassesStreetRow.holds Try.pinned (OpenSpec.ofChange fnPassesStreetWrong)

/-- 'laws.FnBandOfAll': WHATEVER THE INPUT: true; the input reads as it did. -/
def fnBandOfAllSpec : ChangeSpec := { name := "fnBandOfAll", fn := fun _ => fun
  | [d] => { results := [.lit (.bool true)], args := [d] }
  | _ => none }
def fnBandOfAllRow : OpenClaim := { program := "ytmnapeefclkldaa", sum := "1a1a688f929574deec22317742e663869f81b31dfb46d51e9fc1398165ddaeb7", func := "loop.example/liftsandlights/laws.FnBandOfAll", spec := "fnBandOfAll", apart := false }
def FnBandOfAllSaid : Prop := fnBandOfAllRow.holds Try.pinned (OpenSpec.ofChange fnBandOfAllSpec)

/-- ITS FALSE NEIGHBOUR: 'it returns false'. Refute it at one input. -/
def fnBandOfAllWrong : ChangeSpec := { name := "fnBandOfAll", fn := fun _ => fun
  | [d] => { results := [.lit (.bool false)], args := [d] }
  | _ => none }
def FnBandOfAllWrongFalsely : Prop := fnBandOfAllRow.holds Try.pinned (OpenSpec.ofChange fnBandOfAllWrong)

/-- 'laws.FnBandOfPart': WHATEVER THE INPUT: true; the input reads as it did. -/
def fnBandOfPartSpec : ChangeSpec := { name := "fnBandOfPart", fn := fun _ => fun
  | [d] => { results := [.lit (.bool true)], args := [d] }
  | _ => none }
def fnBandOfPartRow : OpenClaim := { program := "ytmnapeefclkldaa", sum := "1a1a688f929574deec22317742e663869f81b31dfb46d51e9fc1398165ddaeb7", func := "loop.example/liftsandlights/laws.FnBandOfPart", spec := "fnBandOfPart", apart := false }
def FnBandOfPartSaid : Prop := fnBandOfPartRow.holds Try.pinned (OpenSpec.ofChange fnBandOfPartSpec)

/-- ITS FALSE NEIGHBOUR: 'it returns false'. Refute it at one input. -/
def fnBandOfPartWrong : ChangeSpec := { name := "fnBandOfPart", fn := fun _ => fun
  | [d] => { results := [.lit (.bool false)], args := [d] }
  | _ => none }
def FnBandOfPartWrongFalsely : Prop := fnBandOfPartRow.holds Try.pinned (OpenSpec.ofChange fnBandOfPartWrong)

/-- 'laws.FnBandOfShift': WHATEVER THE INPUT: true; the input reads as it did. -/
def fnBandOfShiftSpec : ChangeSpec := { name := "fnBandOfShift", fn := fun _ => fun
  | [d] => { results := [.lit (.bool true)], args := [d] }
  | _ => none }
def fnBandOfShiftRow : OpenClaim := { program := "ytmnapeefclkldaa", sum := "1a1a688f929574deec22317742e663869f81b31dfb46d51e9fc1398165ddaeb7", func := "loop.example/liftsandlights/laws.FnBandOfShift", spec := "fnBandOfShift", apart := false }
def FnBandOfShiftSaid : Prop := fnBandOfShiftRow.holds Try.pinned (OpenSpec.ofChange fnBandOfShiftSpec)

/-- ITS FALSE NEIGHBOUR: 'it returns false'. Refute it at one input. -/
def fnBandOfShiftWrong : ChangeSpec := { name := "fnBandOfShift", fn := fun _ => fun
  | [d] => { results := [.lit (.bool false)], args := [d] }
  | _ => none }
def FnBandOfShiftWrongFalsely : Prop := fnBandOfShiftRow.holds Try.pinned (OpenSpec.ofChange fnBandOfShiftWrong)

/-- 'laws.FnBandOf': WHATEVER THE INPUT: true; the input reads as it did. -/
def fnBandOfSpec : ChangeSpec := { name := "fnBandOf", fn := fun _ => fun
  | [d] => { results := [.lit (.bool true)], args := [d] }
  | _ => none }
def fnBandOfRow : OpenClaim := { program := "ytmnapeefclkldaa", sum := "1a1a688f929574deec22317742e663869f81b31dfb46d51e9fc1398165ddaeb7", func := "loop.example/liftsandlights/laws.FnBandOf", spec := "fnBandOf", apart := false }
def FnBandOfSaid : Prop := fnBandOfRow.holds Try.pinned (OpenSpec.ofChange fnBandOfSpec)

/-- ITS FALSE NEIGHBOUR: 'it returns false'. Refute it at one input. -/
def fnBandOfWrong : ChangeSpec := { name := "fnBandOf", fn := fun _ => fun
  | [d] => { results := [.lit (.bool false)], args := [d] }
  | _ => none }
def FnBandOfWrongFalsely : Prop := fnBandOfRow.holds Try.pinned (OpenSpec.ofChange fnBandOfWrong)

/-- 'laws.FnExactTwoWayBand': WHATEVER THE INPUT: true; the input reads as it did. -/
def fnExactTwoWayBandSpec : ChangeSpec := { name := "fnExactTwoWayBand", fn := fun _ => fun
  | [d1, d2] => { results := [.lit (.bool true)], args := [d1, d2] }
  | _ => none }
def fnExactTwoWayBandRow : OpenClaim := { program := "ytmnapeefclkldaa", sum := "1a1a688f929574deec22317742e663869f81b31dfb46d51e9fc1398165ddaeb7", func := "loop.example/liftsandlights/laws.FnExactTwoWayBand", spec := "fnExactTwoWayBand", apart := false }
def FnExactTwoWayBandSaid : Prop := fnExactTwoWayBandRow.holds Try.pinned (OpenSpec.ofChange fnExactTwoWayBandSpec)

/-- ITS FALSE NEIGHBOUR: 'it returns false'. Refute it at one input. -/
def fnExactTwoWayBandWrong : ChangeSpec := { name := "fnExactTwoWayBand", fn := fun _ => fun
  | [d1, d2] => { results := [.lit (.bool false)], args := [d1, d2] }
  | _ => none }
def FnExactTwoWayBandWrongFalsely : Prop := fnExactTwoWayBandRow.holds Try.pinned (OpenSpec.ofChange fnExactTwoWayBandWrong)

/-- 'laws.FnTwoWayBand': WHATEVER THE INPUT: true; the input reads as it did. -/
def fnTwoWayBandSpec : ChangeSpec := { name := "fnTwoWayBand", fn := fun _ => fun
  | [d] => { results := [.lit (.bool true)], args := [d] }
  | _ => none }
def fnTwoWayBandRow : OpenClaim := { program := "ytmnapeefclkldaa", sum := "1a1a688f929574deec22317742e663869f81b31dfb46d51e9fc1398165ddaeb7", func := "loop.example/liftsandlights/laws.FnTwoWayBand", spec := "fnTwoWayBand", apart := false }
def FnTwoWayBandSaid : Prop := fnTwoWayBandRow.holds Try.pinned (OpenSpec.ofChange fnTwoWayBandSpec)

/-- ITS FALSE NEIGHBOUR: 'it returns false'. Refute it at one input. -/
def fnTwoWayBandWrong : ChangeSpec := { name := "fnTwoWayBand", fn := fun _ => fun
  | [d] => { results := [.lit (.bool false)], args := [d] }
  | _ => none }
def FnTwoWayBandWrongFalsely : Prop := fnTwoWayBandRow.holds Try.pinned (OpenSpec.ofChange fnTwoWayBandWrong)

/-- 'laws.FnExactBestOffsets': WHATEVER THE INPUT: true; the input reads as it did. -/
def fnExactBestOffsetsSpec : ChangeSpec := { name := "fnExactBestOffsets", fn := fun _ => fun
  | [d] => { results := [.lit (.bool true)], args := [d] }
  | _ => none }
def fnExactBestOffsetsRow : OpenClaim := { program := "ytmnapeefclkldaa", sum := "1a1a688f929574deec22317742e663869f81b31dfb46d51e9fc1398165ddaeb7", func := "loop.example/liftsandlights/laws.FnExactBestOffsets", spec := "fnExactBestOffsets", apart := false }
def FnExactBestOffsetsSaid : Prop := fnExactBestOffsetsRow.holds Try.pinned (OpenSpec.ofChange fnExactBestOffsetsSpec)

/-- ITS FALSE NEIGHBOUR: 'it returns false'. Refute it at one input. -/
def fnExactBestOffsetsWrong : ChangeSpec := { name := "fnExactBestOffsets", fn := fun _ => fun
  | [d] => { results := [.lit (.bool false)], args := [d] }
  | _ => none }
def FnExactBestOffsetsWrongFalsely : Prop := fnExactBestOffsetsRow.holds Try.pinned (OpenSpec.ofChange fnExactBestOffsetsWrong)

/- THE SECOND FORM. 'bulk': how many values and letters a reading holds, each counted each time it is reached (what is shared counts as often as it is met; a slice's spare places count too). A statement '..UptoSaid' is the law's where the arguments, and the package variables that the reading takes, are together of bulk at most 1048576: NARROWER than '..Said'. Prove '..Said' where nothing that the law and all that it calls make is longer than what came in: it says more and counts as full. Else prove '..UptoSaid'. A law counts once. -/
mutual
def uptoBulk {H : Type} : DataW H → Nat
  | .lit (.string bytes) => bytes.length + 1
  | .lit _ => 1
  | .nil => 1
  | .ptr d => uptoBulk d + 1
  | .slice elems spare => uptoBulkAll elems + uptoBulkAll spare + 1
  | .agg parts => uptoBulkAll parts + 1
  | .iface _ d => uptoBulk d + 1
  | .map entries => uptoBulkEntries entries + 1
  | .held _ => 1
def uptoBulkAll {H : Type} : List (DataW H) → Nat
  | [] => 0
  | d :: r => uptoBulk d + uptoBulkAll r
def uptoBulkEntries {H : Type} : List (Lit × DataW H) → Nat
  | [] => 0
  | x :: r => uptoBulkEntry x + uptoBulkEntries r
def uptoBulkEntry {H : Type} : Lit × DataW H → Nat
  | (.string bytes, d) => bytes.length + uptoBulk d + 1
  | (_, d) => uptoBulk d + 1
 end
def uptoSmall : (H : Type) → List (DataW H) → Bool := fun _ ds => decide (uptoBulkAll ds ≤ 1048576)
def OpenSpec.upto (s : _root_.Go.ChangeSpec) : _root_.Go.OpenSpec := { _root_.Go.OpenSpec.ofChange s with cond := some uptoSmall }

/-- 'laws.FnExactPassesStreet', WHERE WHAT IT READS IS OF BULK AT MOST 1048576: true; the input reads as it did. -/
def fnExactPassesStreetUptoRow : OpenClaim := { program := "ytmnapeefclkldaa", sum := "1a1a688f929574deec22317742e663869f81b31dfb46d51e9fc1398165ddaeb7", func := "loop.example/liftsandlights/laws.FnExactPassesStreet", spec := "fnExactPassesStreet", apart := false, narrowed := true }
def FnExactPassesStreetUptoSaid : Prop := fnExactPassesStreetUptoRow.holds Try.pinned (OpenSpec.upto fnExactPassesStreetSpec)

/-- 'laws.FnExactWaveOffsets', WHERE WHAT IT READS IS OF BULK AT MOST 1048576: true; the input reads as it did. -/
def fnExactWaveOffsetsUptoRow : OpenClaim := { program := "ytmnapeefclkldaa", sum := "1a1a688f929574deec22317742e663869f81b31dfb46d51e9fc1398165ddaeb7", func := "loop.example/liftsandlights/laws.FnExactWaveOffsets", spec := "fnExactWaveOffsets", apart := false, narrowed := true }
def FnExactWaveOffsetsUptoSaid : Prop := fnExactWaveOffsetsUptoRow.holds Try.pinned (OpenSpec.upto fnExactWaveOffsetsSpec)

/-- 'laws.FnExactBandOf', WHERE WHAT IT READS IS OF BULK AT MOST 1048576: true; the input reads as it did. -/
def fnExactBandOfUptoRow : OpenClaim := { program := "ytmnapeefclkldaa", sum := "1a1a688f929574deec22317742e663869f81b31dfb46d51e9fc1398165ddaeb7", func := "loop.example/liftsandlights/laws.FnExactBandOf", spec := "fnExactBandOf", apart := false, narrowed := true }
def FnExactBandOfUptoSaid : Prop := fnExactBandOfUptoRow.holds Try.pinned (OpenSpec.upto fnExactBandOfSpec)

/-- 'laws.FnWaveOffsets', WHERE WHAT IT READS IS OF BULK AT MOST 1048576: true; the input reads as it did. -/
def fnWaveOffsetsUptoRow : OpenClaim := { program := "ytmnapeefclkldaa", sum := "1a1a688f929574deec22317742e663869f81b31dfb46d51e9fc1398165ddaeb7", func := "loop.example/liftsandlights/laws.FnWaveOffsets", spec := "fnWaveOffsets", apart := false, narrowed := true }
def FnWaveOffsetsUptoSaid : Prop := fnWaveOffsetsUptoRow.holds Try.pinned (OpenSpec.upto fnWaveOffsetsSpec)

/-- 'laws.FnPassesStreet', WHERE WHAT IT READS IS OF BULK AT MOST 1048576: true; the input reads as it did. -/
def fnPassesStreetUptoRow : OpenClaim := { program := "ytmnapeefclkldaa", sum := "1a1a688f929574deec22317742e663869f81b31dfb46d51e9fc1398165ddaeb7", func := "loop.example/liftsandlights/laws.FnPassesStreet", spec := "fnPassesStreet", apart := false, narrowed := true }
def FnPassesStreetUptoSaid : Prop := fnPassesStreetUptoRow.holds Try.pinned (OpenSpec.upto fnPassesStreetSpec)

/-- 'laws.FnBandOfAll', WHERE WHAT IT READS IS OF BULK AT MOST 1048576: true; the input reads as it did. -/
def fnBandOfAllUptoRow : OpenClaim := { program := "ytmnapeefclkldaa", sum := "1a1a688f929574deec22317742e663869f81b31dfb46d51e9fc1398165ddaeb7", func := "loop.example/liftsandlights/laws.FnBandOfAll", spec := "fnBandOfAll", apart := false, narrowed := true }
def FnBandOfAllUptoSaid : Prop := fnBandOfAllUptoRow.holds Try.pinned (OpenSpec.upto fnBandOfAllSpec)

/-- 'laws.FnBandOfPart', WHERE WHAT IT READS IS OF BULK AT MOST 1048576: true; the input reads as it did. -/
def fnBandOfPartUptoRow : OpenClaim := { program := "ytmnapeefclkldaa", sum := "1a1a688f929574deec22317742e663869f81b31dfb46d51e9fc1398165ddaeb7", func := "loop.example/liftsandlights/laws.FnBandOfPart", spec := "fnBandOfPart", apart := false, narrowed := true }
def FnBandOfPartUptoSaid : Prop := fnBandOfPartUptoRow.holds Try.pinned (OpenSpec.upto fnBandOfPartSpec)

/-- 'laws.FnBandOfShift', WHERE WHAT IT READS IS OF BULK AT MOST 1048576: true; the input reads as it did. -/
def fnBandOfShiftUptoRow : OpenClaim := { program := "ytmnapeefclkldaa", sum := "1a1a688f929574deec22317742e663869f81b31dfb46d51e9fc1398165ddaeb7", func := "loop.example/liftsandlights/laws.FnBandOfShift", spec := "fnBandOfShift", apart := false, narrowed := true }
def FnBandOfShiftUptoSaid : Prop := fnBandOfShiftUptoRow.holds Try.pinned (OpenSpec.upto fnBandOfShiftSpec)

/-- 'laws.FnBandOf', WHERE WHAT IT READS IS OF BULK AT MOST 1048576: true; the input reads as it did. -/
def fnBandOfUptoRow : OpenClaim := { program := "ytmnapeefclkldaa", sum := "1a1a688f929574deec22317742e663869f81b31dfb46d51e9fc1398165ddaeb7", func := "loop.example/liftsandlights/laws.FnBandOf", spec := "fnBandOf", apart := false, narrowed := true }
def FnBandOfUptoSaid : Prop := fnBandOfUptoRow.holds Try.pinned (OpenSpec.upto fnBandOfSpec)

/-- 'laws.FnExactTwoWayBand', WHERE WHAT IT READS IS OF BULK AT MOST 1048576: true; the input reads as it did. -/
def fnExactTwoWayBandUptoRow : OpenClaim := { program := "ytmnapeefclkldaa", sum := "1a1a688f929574deec22317742e663869f81b31dfb46d51e9fc1398165ddaeb7", func := "loop.example/liftsandlights/laws.FnExactTwoWayBand", spec := "fnExactTwoWayBand", apart := false, narrowed := true }
def FnExactTwoWayBandUptoSaid : Prop := fnExactTwoWayBandUptoRow.holds Try.pinned (OpenSpec.upto fnExactTwoWayBandSpec)

/-- 'laws.FnTwoWayBand', WHERE WHAT IT READS IS OF BULK AT MOST 1048576: true; the input reads as it did. -/
def fnTwoWayBandUptoRow : OpenClaim := { program := "ytmnapeefclkldaa", sum := "1a1a688f929574deec22317742e663869f81b31dfb46d51e9fc1398165ddaeb7", func := "loop.example/liftsandlights/laws.FnTwoWayBand", spec := "fnTwoWayBand", apart := false, narrowed := true }
def FnTwoWayBandUptoSaid : Prop := fnTwoWayBandUptoRow.holds Try.pinned (OpenSpec.upto fnTwoWayBandSpec)

/-- 'laws.FnExactBestOffsets', WHERE WHAT IT READS IS OF BULK AT MOST 1048576: true; the input reads as it did. -/
def fnExactBestOffsetsUptoRow : OpenClaim := { program := "ytmnapeefclkldaa", sum := "1a1a688f929574deec22317742e663869f81b31dfb46d51e9fc1398165ddaeb7", func := "loop.example/liftsandlights/laws.FnExactBestOffsets", spec := "fnExactBestOffsets", apart := false, narrowed := true }
def FnExactBestOffsetsUptoSaid : Prop := fnExactBestOffsetsUptoRow.holds Try.pinned (OpenSpec.upto fnExactBestOffsetsSpec)

end Rows
end Go.Proofs.Ytmnapeefclkldaa
