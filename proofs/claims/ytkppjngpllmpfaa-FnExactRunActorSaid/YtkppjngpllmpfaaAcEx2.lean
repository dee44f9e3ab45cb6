/-
  Marks on controllers.
-/
import Derived.Test.YtkppjngpllmpfaaAcEx
import Derived.Test.YtkppjngpllmpfaaAcStepA
namespace Go.Proofs.Ytkppjngpllmpfaa
open Go.RowKit
set_option linter.unusedVariables false

theorem markActor_any (a : Ctl) (A : Option Addr) (c lo : Nat) (k : Int) (w : World) (hr : OwnO fB w lo 4 A c a.wa) (hn : a.wa.length ≤ 2000000) (hk0 : 0 ≤ k) (hk : k ≤ 1000000000) :
    Calls Try.prog 19 #[acV a A c, .int .i64 k] w (MarkBool w lo A c a.wa.length k) := by
  obtain ⟨st, now, pa, qu, le, wa⟩ := a
  go_enter Try.func19, Try.ntmps19
  go_wp2_with fail
  refine (markBoolS_any wa A c _ k _ (hr.alloc _) hn hk0 hk).mono ?_
  rintro e w1 ⟨rfl, h1, g1⟩
  have G := only_trans (only_alloc (only_refl w (blk A)) (.cells (acC ⟨st, now, pa, qu, le, wa⟩ A c) 25)) g1
  go_wp2_with fail
  go_ret
  exact ⟨rfl, h1, G⟩
theorem stepG_len {a : Ctl} {cars : List Bool} : (stepG a cars).wa.length ≤ 5 := by
  unfold stepG
  split
  · rename_i h
    obtain ⟨hg, hl⟩ := okA_good h
    have h1 := step_wa hg hl
    have := hg.wa
    have := hg.st
    omega
  · simp [zeroA]
end Go.Proofs.Ytkppjngpllmpfaa
