/-
  What the statements on streets share.
-/
import Derived.Test.YtmnapeefclkldaaOpen
import Derived.Test.YtmnapeefclkldaaStDraw3
namespace Go.Proofs.Ytmnapeefclkldaa
open Go.RowKit
set_option linter.unusedVariables false

theorem RdL.drewN {α : Type} {f : α → Value} {w : World} {A : Option Addr} {xs : List α} (h : RdL f w A xs) (n : Nat) : RdL f (w.drewN n) A xs := h.below (below_drewN (Below.refl _ _) n)
theorem RdS.drewN {w : World} {s : St} {G T : Option Addr} (h : RdS w s G T) (n : Nat) : RdS (w.drewN n) s G T := h.below (below_drewN (Below.refl _ _) n)
theorem iBand_v (s : St) (os : List Int) (v : Int) (hv : Hid (v = bandF s os)) (G T O : Option Addr) (c d f : Nat) (w : World) (hs : RdS w s G T) (ho : RdL fI w O os) (no : os.length ≤ 2000000) :
    Calls Try.prog 28 #[strV s G T c d, .slice O os.length f] w fun e w' => e = .returned (.int .i64 v) ∧ Below w.heap.size w w' := by rw [hv.out]; exact iBand_any s os G T O c d f w hs ho no
theorem sBand_v (s : St) (os : List Int) (v : Int) (hv : Hid (v = bandF s os)) (G T O : Option Addr) (c d f : Nat) (w : World) (hs : RdS w s G T) (ho : RdL fI w O os) (no : os.length ≤ 2000000) :
    Calls Try.prog 27 #[strV s G T c d, .slice O os.length f] w fun e w' => e = .returned (.int .i64 v) ∧ Below w.heap.size w w' := by rw [hv.out]; exact sBand_any s os G T O c d f w hs ho no
theorem iPasses_v (s : St) (os : List Int) (v : Bool) (t : Int) (hv : Hid (v = passesF s os t)) (G T O : Option Addr) (c d f : Nat) (w : World) (hs : RdS w s G T) (ho : RdL fI w O os) (no : os.length ≤ 2000000) :
    Calls Try.prog 19 #[strV s G T c d, .slice O os.length f, .int .i64 t] w fun e w' => e = .returned (.bool v) ∧ Below w.heap.size w w' := by rw [hv.out]; exact iPasses_any s os G T O c d f t w hs ho no
theorem sPasses_v (s : St) (os : List Int) (v : Bool) (t : Int) (hv : Hid (v = passesF s os t)) (G T O : Option Addr) (c d f : Nat) (w : World) (hs : RdS w s G T) (ho : RdL fI w O os) (no : os.length ≤ 2000000) :
    Calls Try.prog 16 #[strV s G T c d, .slice O os.length f, .int .i64 t] w fun e w' => e = .returned (.bool v) ∧ Below w.heap.size w w' := by rw [hv.out]; exact sPasses_any s os G T O c d f t w hs ho no
theorem iWave_l (s : St) (l : List Int) (hl : Hid (l = waveF s)) (G T : Option Addr) (c d : Nat) (w : World) (hs : RdS w s G T) :
    Calls Try.prog 23 #[strV s G T c d] w (NewS fI 3 w l) := by rw [hl.out]; exact iWave_any s G T c d w hs
theorem sWave_l (s : St) (l : List Int) (hl : Hid (l = waveF s)) (G T : Option Addr) (c d : Nat) (w : World) (hs : RdS w s G T) :
    Calls Try.prog 22 #[strV s G T c d] w (NewS fI 3 w l) := by rw [hl.out]; exact sWave_any s G T c d w hs
end Go.Proofs.Ytmnapeefclkldaa
