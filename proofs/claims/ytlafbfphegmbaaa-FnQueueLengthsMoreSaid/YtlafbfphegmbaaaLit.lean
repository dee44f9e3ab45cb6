/-
  A slice that is written out reads as its list.
-/
import Derived.Test.YtlafbfphegmbaaaSl
namespace Go.Proofs.Ytlafbfphegmbaaa
open Go.RowKit
theorem RdL.of_blk {α : Type} {f : α → Value} {w : World} {g : Nat} {t : TypeId} {xs : List α} (h : Blk w g t (xs.map f).toArray) : RdL f w (some ⟨g, 0, none⟩) xs := by
  refine .inr ⟨g, 0, rfl, fun i x hx => ?_⟩
  rw [h.cell]
  simp [hx]
theorem RdL.new {α : Type} (f : α → Value) (w : World) (t : TypeId) (xs : List α) : RdL f (w.alloc (.cells (xs.map f).toArray t)) (some ⟨w.heap.size, 0, none⟩) xs := .of_blk (Blk.new _ _ _)
end Go.Proofs.Ytlafbfphegmbaaa
