/-
  Both ways, named by their numbers.
-/
import Derived.Test.YtmnapeefclkldaaStFn
import Derived.Test.YtmnapeefclkldaaStTwo
namespace Go.Proofs.Ytmnapeefclkldaa
open Go.RowKit
set_option linter.unusedVariables false
theorem iTwo_v (s : St) (os : List Int) (v : Int) (hv : Hid (v = twoF s os)) (G T O : Option Addr) (c d f : Nat) (w : World) (hs : RdS w s G T) (ho : RdL fI w O os) (no : os.length ≤ 2000000) :
    Calls Try.prog 34 #[strV s G T c d, .slice O os.length f] w fun e w' => e = .returned (.int .i64 v) ∧ Below w.heap.size w w' := by rw [hv.out]; exact iTwo_any s os G T O c d f w hs ho no
theorem sTwo_v (s : St) (os : List Int) (v : Int) (hv : Hid (v = twoF s os)) (G T O : Option Addr) (c d f : Nat) (w : World) (hs : RdS w s G T) (ho : RdL fI w O os) (no : os.length ≤ 2000000) :
    Calls Try.prog 33 #[strV s G T c d, .slice O os.length f] w fun e w' => e = .returned (.int .i64 v) ∧ Below w.heap.size w w' := by rw [hv.out]; exact sTwo_any s os G T O c d f w hs ho no
end Go.Proofs.Ytmnapeefclkldaa
