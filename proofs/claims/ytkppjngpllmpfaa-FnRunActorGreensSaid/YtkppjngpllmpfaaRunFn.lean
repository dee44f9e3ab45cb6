/-
  What RunActor's laws lean on.
-/
import Derived.Test.YtkppjngpllmpfaaRunDraw
import Derived.Test.YtkppjngpllmpfaaRegF
import Derived.Test.YtkppjngpllmpfaaAcEx
namespace Go.Proofs.Ytkppjngpllmpfaa
open Go.RowKit
set_option linter.unusedVariables false

theorem RdSS.take {α : Type} {f : α → Value} {w : World} {C : Option Addr} {css : List (List α)} (h : RdSS f w C css) (n : Nat) : RdSS f w C (css.take n) := by
  obtain ⟨ps, h1, h2, h3⟩ := h
  refine ⟨ps.take n, h1.take n, by simp [h2], fun k hk hk' => ?_⟩
  rw [List.getElem_take, List.getElem_take]
  simp at hk hk'
  exact h3 k (by omega) (by omega)
end Go.Proofs.Ytkppjngpllmpfaa
