/-
  No cell of these rows narrows 'for every input' (looked for: loops, veiled, ifaces, maps, wideKeys, modest, calm, conditions, laid).
  DERIVED. THE GIVEN ROWS OF THIS SEAT. 10 by the template 'for every input the law returns true; each argument reads behind the call as it read before'; 0 by the template 'total and deterministic' (their statements: YtlafbfphegmbaaaTotals.lean).
  GIVEN WITH THE SEED: the statements are not yours to turn. If you find one false, say at which input.
  Laid BY PROGRAM, IN A SANDBOX (cutbox-rows.mjs): the forced cells as the released guide's own fill.sh prints them over the translation 47a5eda16039bf9d… (all of the seat's roots in one cut). By AI agents, Wed Nov 11 2026. No macro, syntax, notation, axiom, sorry.
-/
import Derived.Test.YtlafbfphegmbaaaChecked
import GoSem.Claim
import GoSem.ClaimJoined
import GoSem.ClaimMapViews
import Derived.JoinedTies
import Derived.KernelRfl
namespace Go.Proofs.Ytlafbfphegmbaaa
/- THE CELL 'sum', in the pinned program and in every row, IS THE sha256 OF THE DUMP (.gsa) THAT YtlafbfphegmbaaaProg.lean LOADS. Nothing in Lean hashes anything: it is a label: what it is worth is what the hold of that sum in a sandbox is worth. -/
noncomputable def Try.pinned : Pinned := { name := "ytlafbfphegmbaaa", sum := "47a5eda16039bf9debf4c0f74feb2972390e0f4ad0d5b8d1db203444cedea5f8", checked := Try.checked }
namespace Rows
def none {H : Type} : Left H := { results := [], args := [] }

/-- 'laws.FnExactTotalDelay': WHATEVER THE INPUT: true; the input reads as it did. -/
def fnExactTotalDelaySpec : ChangeSpec := { name := "fnExactTotalDelay", fn := fun _ => fun
  | [d1, d2] => { results := [.lit (.bool true)], args := [d1, d2] }
  | _ => none }
def fnExactTotalDelayRow : OpenClaim := { program := "ytlafbfphegmbaaa", sum := "47a5eda16039bf9debf4c0f74feb2972390e0f4ad0d5b8d1db203444cedea5f8", func := "loop.example/liftsandlights/laws.FnExactTotalDelay", spec := "fnExactTotalDelay", apart := false }
def FnExactTotalDelaySaid : Prop := fnExactTotalDelayRow.holds Try.pinned (OpenSpec.ofChange fnExactTotalDelaySpec)

/-- ITS FALSE NEIGHBOUR: 'it returns false'. Refute it at one input. -/
def fnExactTotalDelayWrong : ChangeSpec := { name := "fnExactTotalDelay", fn := fun _ => fun
  | [d1, d2] => { results := [.lit (.bool false)], args := [d1, d2] }
  | _ => none }
def FnExactTotalDelayWrongFalsely : Prop := fnExactTotalDelayRow.holds Try.pinned (OpenSpec.ofChange fnExactTotalDelayWrong)

/-- 'laws.FnExactQueueLengths': WHATEVER THE INPUT: true; the input reads as it did. -/
def fnExactQueueLengthsSpec : ChangeSpec := { name := "fnExactQueueLengths", fn := fun _ => fun
  | [d1, d2] => { results := [.lit (.bool true)], args := [d1, d2] }
  | _ => none }
def fnExactQueueLengthsRow : OpenClaim := { program := "ytlafbfphegmbaaa", sum := "47a5eda16039bf9debf4c0f74feb2972390e0f4ad0d5b8d1db203444cedea5f8", func := "loop.example/liftsandlights/laws.FnExactQueueLengths", spec := "fnExactQueueLengths", apart := false }
def FnExactQueueLengthsSaid : Prop := fnExactQueueLengthsRow.holds Try.pinned (OpenSpec.ofChange fnExactQueueLengthsSpec)

/-- ITS FALSE NEIGHBOUR: 'it returns false'. Refute it at one input. -/
def fnExactQueueLengthsWrong : ChangeSpec := { name := "fnExactQueueLengths", fn := fun _ => fun
  | [d1, d2] => { results := [.lit (.bool false)], args := [d1, d2] }
  | _ => none }
def FnExactQueueLengthsWrongFalsely : Prop := fnExactQueueLengthsRow.holds Try.pinned (OpenSpec.ofChange fnExactQueueLengthsWrong)

/-- 'laws.FnExactDepartureTimes': WHATEVER THE INPUT: true; the input reads as it did. -/
def fnExactDepartureTimesSpec : ChangeSpec := { name := "fnExactDepartureTimes", fn := fun _ => fun
  | [d1, d2] => { results := [.lit (.bool true)], args := [d1, d2] }
  | _ => none }
def fnExactDepartureTimesRow : OpenClaim := { program := "ytlafbfphegmbaaa", sum := "47a5eda16039bf9debf4c0f74feb2972390e0f4ad0d5b8d1db203444cedea5f8", func := "loop.example/liftsandlights/laws.FnExactDepartureTimes", spec := "fnExactDepartureTimes", apart := false }
def FnExactDepartureTimesSaid : Prop := fnExactDepartureTimesRow.holds Try.pinned (OpenSpec.ofChange fnExactDepartureTimesSpec)

/-- ITS FALSE NEIGHBOUR: 'it returns false'. Refute it at one input. -/
def fnExactDepartureTimesWrong : ChangeSpec := { name := "fnExactDepartureTimes", fn := fun _ => fun
  | [d1, d2] => { results := [.lit (.bool false)], args := [d1, d2] }
  | _ => none }
def FnExactDepartureTimesWrongFalsely : Prop := fnExactDepartureTimesRow.holds Try.pinned (OpenSpec.ofChange fnExactDepartureTimesWrong)

/-- 'laws.FnQueueLengthsGreen': WHATEVER THE INPUT: true; the input reads as it did. -/
def fnQueueLengthsGreenSpec : ChangeSpec := { name := "fnQueueLengthsGreen", fn := fun _ => fun
  | [d] => { results := [.lit (.bool true)], args := [d] }
  | _ => none }
def fnQueueLengthsGreenRow : OpenClaim := { program := "ytlafbfphegmbaaa", sum := "47a5eda16039bf9debf4c0f74feb2972390e0f4ad0d5b8d1db203444cedea5f8", func := "loop.example/liftsandlights/laws.FnQueueLengthsGreen", spec := "fnQueueLengthsGreen", apart := false }
def FnQueueLengthsGreenSaid : Prop := fnQueueLengthsGreenRow.holds Try.pinned (OpenSpec.ofChange fnQueueLengthsGreenSpec)

/-- ITS FALSE NEIGHBOUR: 'it returns false'. Refute it at one input. -/
def fnQueueLengthsGreenWrong : ChangeSpec := { name := "fnQueueLengthsGreen", fn := fun _ => fun
  | [d] => { results := [.lit (.bool false)], args := [d] }
  | _ => none }
def FnQueueLengthsGreenWrongFalsely : Prop := fnQueueLengthsGreenRow.holds Try.pinned (OpenSpec.ofChange fnQueueLengthsGreenWrong)

/-- 'laws.FnQueueLengthsMore': WHATEVER THE INPUT: true; the input reads as it did. -/
def fnQueueLengthsMoreSpec : ChangeSpec := { name := "fnQueueLengthsMore", fn := fun _ => fun
  | [d] => { results := [.lit (.bool true)], args := [d] }
  | _ => none }
def fnQueueLengthsMoreRow : OpenClaim := { program := "ytlafbfphegmbaaa", sum := "47a5eda16039bf9debf4c0f74feb2972390e0f4ad0d5b8d1db203444cedea5f8", func := "loop.example/liftsandlights/laws.FnQueueLengthsMore", spec := "fnQueueLengthsMore", apart := false }
def FnQueueLengthsMoreSaid : Prop := fnQueueLengthsMoreRow.holds Try.pinned (OpenSpec.ofChange fnQueueLengthsMoreSpec)

/-- ITS FALSE NEIGHBOUR: 'it returns false'. Refute it at one input. -/
def fnQueueLengthsMoreWrong : ChangeSpec := { name := "fnQueueLengthsMore", fn := fun _ => fun
  | [d] => { results := [.lit (.bool false)], args := [d] }
  | _ => none }
def FnQueueLengthsMoreWrongFalsely : Prop := fnQueueLengthsMoreRow.holds Try.pinned (OpenSpec.ofChange fnQueueLengthsMoreWrong)

/-- 'laws.FnExactWaitTimes': WHATEVER THE INPUT: true; the input reads as it did. -/
def fnExactWaitTimesSpec : ChangeSpec := { name := "fnExactWaitTimes", fn := fun _ => fun
  | [d1, d2] => { results := [.lit (.bool true)], args := [d1, d2] }
  | _ => none }
def fnExactWaitTimesRow : OpenClaim := { program := "ytlafbfphegmbaaa", sum := "47a5eda16039bf9debf4c0f74feb2972390e0f4ad0d5b8d1db203444cedea5f8", func := "loop.example/liftsandlights/laws.FnExactWaitTimes", spec := "fnExactWaitTimes", apart := false }
def FnExactWaitTimesSaid : Prop := fnExactWaitTimesRow.holds Try.pinned (OpenSpec.ofChange fnExactWaitTimesSpec)

/-- ITS FALSE NEIGHBOUR: 'it returns false'. Refute it at one input. -/
def fnExactWaitTimesWrong : ChangeSpec := { name := "fnExactWaitTimes", fn := fun _ => fun
  | [d1, d2] => { results := [.lit (.bool false)], args := [d1, d2] }
  | _ => none }
def FnExactWaitTimesWrongFalsely : Prop := fnExactWaitTimesRow.holds Try.pinned (OpenSpec.ofChange fnExactWaitTimesWrong)

/-- 'laws.FnDepartureTimes': WHATEVER THE INPUT: true; the input reads as it did. -/
def fnDepartureTimesSpec : ChangeSpec := { name := "fnDepartureTimes", fn := fun _ => fun
  | [d] => { results := [.lit (.bool true)], args := [d] }
  | _ => none }
def fnDepartureTimesRow : OpenClaim := { program := "ytlafbfphegmbaaa", sum := "47a5eda16039bf9debf4c0f74feb2972390e0f4ad0d5b8d1db203444cedea5f8", func := "loop.example/liftsandlights/laws.FnDepartureTimes", spec := "fnDepartureTimes", apart := false }
def FnDepartureTimesSaid : Prop := fnDepartureTimesRow.holds Try.pinned (OpenSpec.ofChange fnDepartureTimesSpec)

/-- ITS FALSE NEIGHBOUR: 'it returns false'. Refute it at one input. -/
def fnDepartureTimesWrong : ChangeSpec := { name := "fnDepartureTimes", fn := fun _ => fun
  | [d] => { results := [.lit (.bool false)], args := [d] }
  | _ => none }
def FnDepartureTimesWrongFalsely : Prop := fnDepartureTimesRow.holds Try.pinned (OpenSpec.ofChange fnDepartureTimesWrong)

/-- 'laws.FnQueueLengths': WHATEVER THE INPUT: true; the input reads as it did. -/
def fnQueueLengthsSpec : ChangeSpec := { name := "fnQueueLengths", fn := fun _ => fun
  | [d] => { results := [.lit (.bool true)], args := [d] }
  | _ => none }
def fnQueueLengthsRow : OpenClaim := { program := "ytlafbfphegmbaaa", sum := "47a5eda16039bf9debf4c0f74feb2972390e0f4ad0d5b8d1db203444cedea5f8", func := "loop.example/liftsandlights/laws.FnQueueLengths", spec := "fnQueueLengths", apart := false }
def FnQueueLengthsSaid : Prop := fnQueueLengthsRow.holds Try.pinned (OpenSpec.ofChange fnQueueLengthsSpec)

/-- ITS FALSE NEIGHBOUR: 'it returns false'. Refute it at one input. -/
def fnQueueLengthsWrong : ChangeSpec := { name := "fnQueueLengths", fn := fun _ => fun
  | [d] => { results := [.lit (.bool false)], args := [d] }
  | _ => none }
def FnQueueLengthsWrongFalsely : Prop := fnQueueLengthsRow.holds Try.pinned (OpenSpec.ofChange fnQueueLengthsWrong)

/-- 'laws.FnWaitTimes': WHATEVER THE INPUT: true; the input reads as it did. -/
def fnWaitTimesSpec : ChangeSpec := { name := "fnWaitTimes", fn := fun _ => fun
  | [d] => { results := [.lit (.bool true)], args := [d] }
  | _ => none }
def fnWaitTimesRow : OpenClaim := { program := "ytlafbfphegmbaaa", sum := "47a5eda16039bf9debf4c0f74feb2972390e0f4ad0d5b8d1db203444cedea5f8", func := "loop.example/liftsandlights/laws.FnWaitTimes", spec := "fnWaitTimes", apart := false }
def FnWaitTimesSaid : Prop := fnWaitTimesRow.holds Try.pinned (OpenSpec.ofChange fnWaitTimesSpec)

/-- ITS FALSE NEIGHBOUR: 'it returns false'. Refute it at one input. -/
def fnWaitTimesWrong : ChangeSpec := { name := "fnWaitTimes", fn := fun _ => fun
  | [d] => { results := [.lit (.bool false)], args := [d] }
  | _ => none }
def FnWaitTimesWrongFalsely : Prop := fnWaitTimesRow.holds Try.pinned (OpenSpec.ofChange fnWaitTimesWrong)

/-- 'laws.FnTotalDelay': WHATEVER THE INPUT: true; the input reads as it did. -/
def fnTotalDelaySpec : ChangeSpec := { name := "fnTotalDelay", fn := fun _ => fun
  | [d] => { results := [.lit (.bool true)], args := [d] }
  | _ => none }
def fnTotalDelayRow : OpenClaim := { program := "ytlafbfphegmbaaa", sum := "47a5eda16039bf9debf4c0f74feb2972390e0f4ad0d5b8d1db203444cedea5f8", func := "loop.example/liftsandlights/laws.FnTotalDelay", spec := "fnTotalDelay", apart := false }
def FnTotalDelaySaid : Prop := fnTotalDelayRow.holds Try.pinned (OpenSpec.ofChange fnTotalDelaySpec)

/-- ITS FALSE NEIGHBOUR: 'it returns false'. Refute it at one input. -/
def fnTotalDelayWrong : ChangeSpec := { name := "fnTotalDelay", fn := fun _ => fun
  | [d] => { results := [.lit (.bool false)], args := [d] }
  | _ => none }
def FnTotalDelayWrongFalsely : Prop := fnTotalDelayRow.holds Try.pinned (OpenSpec.ofChange fnTotalDelayWrong)

/- THE SECOND FORM. 'bulk': how many values and letters a reading holds, each counted each time it is reached (what is shared counts as often as it is met; a slice's spare places count too). A statement '..UptoSaid' is the law's where the arguments, and the package variables that the reading takes, are together of bulk at most 1048576: NARROWER than '..Said'. Prove '..Said' where nothing that the law and all that it calls make is longer than what came in: it says more and counts as full. Else prove '..UptoSaid'. A law counts once. -/
mutual
def uptoBulk {H : Type} : DataW H → Nat
  | .lit (.string bytes) => bytes.length + 1
  | .lit _ => 1
  | .nil => 1
  | .ptr d => uptoBulk d + 1
  | .slice elems spare => uptoBulkAll elems + uptoBulkAll spare + 1
  | .agg parts => uptoBulkAll parts + 1
  | .iface _ d => uptoBulk d + 1
  | .map entries => uptoBulkEntries entries + 1
  | .held _ => 1
def uptoBulkAll {H : Type} : List (DataW H) → Nat
  | [] => 0
  | d :: r => uptoBulk d + uptoBulkAll r
def uptoBulkEntries {H : Type} : List (Lit × DataW H) → Nat
  | [] => 0
  | x :: r => uptoBulkEntry x + uptoBulkEntries r
def uptoBulkEntry {H : Type} : Lit × DataW H → Nat
  | (.string bytes, d) => bytes.length + uptoBulk d + 1
  | (_, d) => uptoBulk d + 1
 end
def uptoSmall : (H : Type) → List (DataW H) → Bool := fun _ ds => decide (uptoBulkAll ds ≤ 1048576)
def OpenSpec.upto (s : _root_.Go.ChangeSpec) : _root_.Go.OpenSpec := { _root_.Go.OpenSpec.ofChange s with cond := some uptoSmall }

/-- 'laws.FnExactTotalDelay', WHERE WHAT IT READS IS OF BULK AT MOST 1048576: true; the input reads as it did. -/
def fnExactTotalDelayUptoRow : OpenClaim := { program := "ytlafbfphegmbaaa", sum := "47a5eda16039bf9debf4c0f74feb2972390e0f4ad0d5b8d1db203444cedea5f8", func := "loop.example/liftsandlights/laws.FnExactTotalDelay", spec := "fnExactTotalDelay", apart := false, narrowed := true }
def FnExactTotalDelayUptoSaid : Prop := fnExactTotalDelayUptoRow.holds Try.pinned (OpenSpec.upto fnExactTotalDelaySpec)

/-- 'laws.FnExactQueueLengths', WHERE WHAT IT READS IS OF BULK AT MOST 1048576: true; the input reads as it did. -/
def fnExactQueueLengthsUptoRow : OpenClaim := { program := "ytlafbfphegmbaaa", sum := "47a5eda16039bf9debf4c0f74feb2972390e0f4ad0d5b8d1db203444cedea5f8", func := "loop.example/liftsandlights/laws.FnExactQueueLengths", spec := "fnExactQueueLengths", apart := false, narrowed := true }
def FnExactQueueLengthsUptoSaid : Prop := fnExactQueueLengthsUptoRow.holds Try.pinned (OpenSpec.upto fnExactQueueLengthsSpec)

/-- 'laws.FnExactDepartureTimes', WHERE WHAT IT READS IS OF BULK AT MOST 1048576: true; the input reads as it did. -/
def fnExactDepartureTimesUptoRow : OpenClaim := { program := "ytlafbfphegmbaaa", sum := "47a5eda16039bf9debf4c0f74feb2972390e0f4ad0d5b8d1db203444cedea5f8", func := "loop.example/liftsandlights/laws.FnExactDepartureTimes", spec := "fnExactDepartureTimes", apart := false, narrowed := true }
def FnExactDepartureTimesUptoSaid : Prop := fnExactDepartureTimesUptoRow.holds Try.pinned (OpenSpec.upto fnExactDepartureTimesSpec)

/-- 'laws.FnQueueLengthsGreen', WHERE WHAT IT READS IS OF BULK AT MOST 1048576: true; the input reads as it did. -/
def fnQueueLengthsGreenUptoRow : OpenClaim := { program := "ytlafbfphegmbaaa", sum := "47a5eda16039bf9debf4c0f74feb2972390e0f4ad0d5b8d1db203444cedea5f8", func := "loop.example/liftsandlights/laws.FnQueueLengthsGreen", spec := "fnQueueLengthsGreen", apart := false, narrowed := true }
def FnQueueLengthsGreenUptoSaid : Prop := fnQueueLengthsGreenUptoRow.holds Try.pinned (OpenSpec.upto fnQueueLengthsGreenSpec)

/-- 'laws.FnQueueLengthsMore', WHERE WHAT IT READS IS OF BULK AT MOST 1048576: true; the input reads as it did. -/
def fnQueueLengthsMoreUptoRow : OpenClaim := { program := "ytlafbfphegmbaaa", sum := "47a5eda16039bf9debf4c0f74feb2972390e0f4ad0d5b8d1db203444cedea5f8", func := "loop.example/liftsandlights/laws.FnQueueLengthsMore", spec := "fnQueueLengthsMore", apart := false, narrowed := true }
def FnQueueLengthsMoreUptoSaid : Prop := fnQueueLengthsMoreUptoRow.holds Try.pinned (OpenSpec.upto fnQueueLengthsMoreSpec)

/-- 'laws.FnExactWaitTimes', WHERE WHAT IT READS IS OF BULK AT MOST 1048576: true; the input reads as it did. -/
def fnExactWaitTimesUptoRow : OpenClaim := { program := "ytlafbfphegmbaaa", sum := "47a5eda16039bf9debf4c0f74feb2972390e0f4ad0d5b8d1db203444cedea5f8", func := "loop.example/liftsandlights/laws.FnExactWaitTimes", spec := "fnExactWaitTimes", apart := false, narrowed := true }
def FnExactWaitTimesUptoSaid : Prop := fnExactWaitTimesUptoRow.holds Try.pinned (OpenSpec.upto fnExactWaitTimesSpec)

/-- 'laws.FnDepartureTimes', WHERE WHAT IT READS IS OF BULK AT MOST 1048576: true; the input reads as it did. -/
def fnDepartureTimesUptoRow : OpenClaim := { program := "ytlafbfphegmbaaa", sum := "47a5eda16039bf9debf4c0f74feb2972390e0f4ad0d5b8d1db203444cedea5f8", func := "loop.example/liftsandlights/laws.FnDepartureTimes", spec := "fnDepartureTimes", apart := false, narrowed := true }
def FnDepartureTimesUptoSaid : Prop := fnDepartureTimesUptoRow.holds Try.pinned (OpenSpec.upto fnDepartureTimesSpec)

/-- 'laws.FnQueueLengths', WHERE WHAT IT READS IS OF BULK AT MOST 1048576: true; the input reads as it did. -/
def fnQueueLengthsUptoRow : OpenClaim := { program := "ytlafbfphegmbaaa", sum := "47a5eda16039bf9debf4c0f74feb2972390e0f4ad0d5b8d1db203444cedea5f8", func := "loop.example/liftsandlights/laws.FnQueueLengths", spec := "fnQueueLengths", apart := false, narrowed := true }
def FnQueueLengthsUptoSaid : Prop := fnQueueLengthsUptoRow.holds Try.pinned (OpenSpec.upto fnQueueLengthsSpec)

/-- 'laws.FnWaitTimes', WHERE WHAT IT READS IS OF BULK AT MOST 1048576: true; the input reads as it did. -/
def fnWaitTimesUptoRow : OpenClaim := { program := "ytlafbfphegmbaaa", sum := "47a5eda16039bf9debf4c0f74feb2972390e0f4ad0d5b8d1db203444cedea5f8", func := "loop.example/liftsandlights/laws.FnWaitTimes", spec := "fnWaitTimes", apart := false, narrowed := true }
def FnWaitTimesUptoSaid : Prop := fnWaitTimesUptoRow.holds Try.pinned (OpenSpec.upto fnWaitTimesSpec)

/-- 'laws.FnTotalDelay', WHERE WHAT IT READS IS OF BULK AT MOST 1048576: true; the input reads as it did. -/
def fnTotalDelayUptoRow : OpenClaim := { program := "ytlafbfphegmbaaa", sum := "47a5eda16039bf9debf4c0f74feb2972390e0f4ad0d5b8d1db203444cedea5f8", func := "loop.example/liftsandlights/laws.FnTotalDelay", spec := "fnTotalDelay", apart := false, narrowed := true }
def FnTotalDelayUptoSaid : Prop := fnTotalDelayUptoRow.holds Try.pinned (OpenSpec.upto fnTotalDelaySpec)

end Rows
end Go.Proofs.Ytlafbfphegmbaaa
