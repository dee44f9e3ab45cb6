/-
  What the statements on lamps share.
-/
import Derived.Test.YtcgcjjpkcaljgaaOpen
import Derived.Test.YtcgcjjpkcaljgaaLpDraw
namespace Go.Proofs.Ytcgcjjpkcaljgaa
open Go.RowKit
set_option linter.unusedVariables false

theorem RdL.drewN {α : Type} {f : α → Value} {w : World} {A : Option Addr} {xs : List α} (h : RdL f w A xs) (n : Nat) : RdL f (w.drewN n) A xs := h.below (below_drewN (Below.refl _ _) n)
theorem drawGO_any (w : World) (A : Option Addr) (len cap : Nat) (h : Bytes w A len) (hc : len ≤ cap) :
    Calls Try.prog 6 #[.slice A len cap] w fun e w' => ∃ l, e = .returned (strL l) ∧ l.length = 20 ∧ Below w.heap.size w w' := by
  go_enter Try.func6, Try.ntmps6
  go_wp2_with fail
  refine (drawFB_any _ A len cap h hc).mono ?_
  rintro e w1 ⟨l, rfl, hl, v1⟩
  have Hl := Lib.hid hl
  clear hl h
  go_wp2_with fail
  go_ret
  exact ⟨l, rfl, Hl.out, v1⟩
theorem drawLO_any (w : World) (A : Option Addr) (len cap : Nat) (h : Bytes w A len) (hc : len ≤ cap) :
    Calls Try.prog 13 #[.slice A len cap] w fun e w' => ∃ gs B c, e = .returned (.slice B (gs : List Bool).length c) ∧ gs.length ≤ 300 ∧ RdL fB w' B gs ∧ Below w.heap.size w w' := by
  go_enter Try.func13, Try.ntmps13
  go_wp2_with fail
  refine (newReader_any _ A len cap h hc).mono ?_
  rintro e w1 ⟨rb, rfl, hrb, hr1, hB⟩
  clear h
  go_wp2_with fail
  refine (anyLength_any _ rb 0 200 hr1 (by omega) (by omega) (by omega)).mono ?_
  rintro e w2 ⟨k, rfl, hk0, hk1, hr2, hG2⟩
  have hB2 := below_of_only hB hG2 hrb
  clear hB hG2 hr1
  go_wp2_with fail
  refine (randomBools_any _ rb _ k hr2 (by omega) (by omega)).mono ?_
  rintro e w3 ⟨gs, A3, c3, rfl, h3, hg3, hr3, hG3⟩
  have hB3 := below_of_only hB2 hG3 hrb
  have hgl := Lib.hid (show gs.length ≤ 300 by have : gs.length = k.toNat := hg3; omega)
  have hrd := h3.rd
  clear hB2 hG3 hr2 hg3 hr3 h3
  go_wp2_with fail
  go_ret
  exact ⟨gs, A3, c3, rfl, hgl.out, hrd, hB3⟩
theorem iGrn_v (l : List UInt8) (g : List Bool) (hg : Hid (g = greensF l)) (w : World) (hl : l.length ≤ 1000000) :
    Calls Try.prog 7 #[strL l] w (NewS fB 4 w g) := by rw [hg.out]; exact iGrn_any l w hl
theorem sGrn_v (l : List UInt8) (g : List Bool) (hg : Hid (g = greensF l)) (w : World) (hl : l.length ≤ 1000000) :
    Calls Try.prog 9 #[strL l] w (NewS fB 4 w g) := by rw [hg.out]; exact sGrn_any l w hl
theorem iFbl_v (l : List UInt8) (v : Int) (hv : Hid (v = fblF l)) (w : World) (hl : l.length ≤ 1000000) :
    Calls Try.prog 11 #[strL l] w fun e w' => e = .returned (.int .i64 v) ∧ Below w.heap.size w w' := by rw [hv.out]; exact iFbl_any l w hl
theorem sFbl_v (l : List UInt8) (v : Int) (hv : Hid (v = fblF l)) (w : World) (hl : l.length ≤ 1000000) :
    Calls Try.prog 12 #[strL l] w fun e w' => e = .returned (.int .i64 v) ∧ Below w.heap.size w w' := by rw [hv.out]; exact sFbl_any l w hl
theorem iLamps_v (gs : List Bool) (l : List UInt8) (hl : Hid (l = lampF gs)) (A : Option Addr) (c : Nat) (w : World) (hr : RdL fB w A gs) (hn : gs.length ≤ 1000000) :
    Calls Try.prog 14 #[.slice A gs.length c] w fun e w' => e = .returned (strL l) ∧ Below w.heap.size w w' := by rw [hl.out]; exact iLamps_any gs A c w hr hn
theorem sLamps_v (gs : List Bool) (l : List UInt8) (hl : Hid (l = lampF gs)) (A : Option Addr) (c : Nat) (w : World) (hr : RdL fB w A gs) (hn : gs.length ≤ 1000000) :
    Calls Try.prog 15 #[.slice A gs.length c] w fun e w' => e = .returned (strL l) ∧ Below w.heap.size w w' := by rw [hl.out]; exact sLamps_any gs A c w hr hn
theorem take_arr (l : List UInt8) (k : Nat) : (⟨l.toArray⟩ : ByteArray).extract 0 k = ⟨(l.take k).toArray⟩ := by
  apply ByteArray.ext
  simp
end Go.Proofs.Ytcgcjjpkcaljgaa
