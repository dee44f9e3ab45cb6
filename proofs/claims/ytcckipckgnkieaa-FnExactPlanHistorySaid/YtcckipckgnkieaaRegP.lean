/-
  An append among the operations of a region that draws its order.
-/
import Derived.Test.YtcckipckgnkieaaRegM
import Derived.Test.YtcckipckgnkieaaSl
namespace Go.Proofs.Ytcckipckgnkieaa
open Go.RowKit
set_option linter.unusedVariables false

theorem op_exits {P : Program} {o : Oper} {a : Act} {w : World} {K : Act → World → Prop} {Q Q' : Exit → Act → World → Prop} (h : ∀ e a w, e ≠ .normal → Q e a w → Q' e a w) (hh : o.wp P a w K Q) : o.wp P a w K Q' := by
  unfold Oper.wp at *
  generalize (execOp a.eval o).run P w = r at *
  cases r with
  | ok n w' =>
    cases n <;> simp only [Oper.upon] at hh ⊢ <;>
      first
        | exact hh
        | exact h _ _ _ (by simp) hh
        | exact Calls.mono hh (fun e w'' he => by cases e <;> first | exact he | exact h _ _ _ (by simp) he | exact he.imp fun a he => he.imp fun w he => h _ _ _ (by simp) he)
  | halt x w' => cases x <;> simp only [Oper.upon] at hh ⊢ <;> first | exact hh | exact h _ _ _ (by simp) hh | exact hh.imp fun a he => he.imp fun w he => h _ _ _ (by simp) he
def OnlyN (K : Act → World → Prop) : Exit → Act → World → Prop
  | .normal, a, w => K a w
  | _, _, _ => False
theorem op_guard {P : Program} {o : Oper} {a : Act} {w : World} {K : Act → World → Prop} {Q : Exit → Act → World → Prop} (h : ({ o with guard := none } : Oper).wp P a w K Q) : o.wp P a w K Q := h
theorem op_pushO {P : Program} {α : Type} {f : α → Value} {e : TypeId} {A : Option Addr} {cap lo : Nat} {xs : List α} {o : Oper} {a : Act} {w : World} {K : Act → World → Prop} {Q : Exit → Act → World → Prop} (s x : Operand) (t : TypeId)
    (ho : o.op = .call { callee := .builtin .append, args := #[s, x], argTypes := #[t, t] })
    (i : TypeInfo) (z : Value) (bytes : Nat) (ht : P.underlying t = some (.slice e)) (hi : P.info? e = some i) (hz : i.zero = some z) (hsize : i.size = 1) (hby : i.bytes = bytes) (hzs : z.cells.size = 1)
    (hs : a.eval s = .slice A xs.length cap) (hown : OwnO f w lo e A cap xs) (g : Nat) (u : α) (hx : a.eval x = .slice (some ⟨g, 0, none⟩) 1 1) (hu : w.cell? ⟨g, 0, none⟩ = some (f u)) (h1 : (f u).oneCell' = true)
    (hlen : xs.length ≤ 1000000) (hb8 : bytes ≤ 1000) (hlo : lo ≤ w.heap.size)
    (h : ∀ A' cap' w', OwnO f w' lo e A' cap' (xs ++ [u]) → w.grownBy w' (blk A) → (blk A' = blk A ∨ ∀ b, blk A' = some b → w.heap.size ≤ b) → K (a.put o.dst (.slice A' (xs.length + 1) cap')) w') : o.wp P a w K Q := by
  refine op_guard ?_
  have hw : Region.wanted ({ o with guard := none } : Oper) (yielded #[] a.tmps) = true := by simp [Region.wanted]
  have hl : wpList P #[] (OnlyN K) [({ o with guard := none } : Oper)] a w := wpList_pushO rfl s x t ho i z bytes ht hi hz hsize hby hzs hs hown g u hx hu h1 hlen hb8 hlo h
  unfold wpList at hl
  rw [if_pos hw] at hl
  rcases hl with hl | ⟨_, a1, w1, hl⟩
  · exact op_exits (fun e a w hn he => by cases e <;> first | exact absurd rfl hn | exact (he : False).elim) (Oper.wp_mono (K' := K) (fun a w h => h) hl)
  · exact (hl : False).elim
theorem wpList_pushG {P : Program} {ops : Array Oper} {rest : List Oper} {α : Type} {f : α → Value} {e : TypeId} {A : Option Addr} {cap lo : Nat} {xs : List α} {o : Oper} {a : Act} {w : World} {Q : Exit → Act → World → Prop} (hw : Region.wanted o (yielded ops a.tmps) = true) (s x : Operand) (t : TypeId)
    (ho : o.op = .call { callee := .builtin .append, args := #[s, x], argTypes := #[t, t] })
    (i : TypeInfo) (z : Value) (bytes : Nat) (ht : P.underlying t = some (.slice e)) (hi : P.info? e = some i) (hz : i.zero = some z) (hsize : i.size = 1) (hby : i.bytes = bytes) (hzs : z.cells.size = 1)
    (hs : a.eval s = .slice A xs.length cap) (hown : OwnO f w lo e A cap xs) (g : Nat) (u : α) (hx : a.eval x = .slice (some ⟨g, 0, none⟩) 1 1) (hu : w.cell? ⟨g, 0, none⟩ = some (f u)) (h1 : (f u).oneCell' = true)
    (hlen : xs.length ≤ 1000000) (hb8 : bytes ≤ 1000) (hlo : lo ≤ w.heap.size)
    (h : ∀ A' cap' w', OwnO f w' lo e A' cap' (xs ++ [u]) → w.grownBy w' (blk A) → (blk A' = blk A ∨ ∀ b, blk A' = some b → w.heap.size ≤ b) → wpList P ops Q rest (a.put o.dst (.slice A' (xs.length + 1) cap')) w') : wpList P ops Q (o :: rest) a w := by
  unfold wpList
  rw [if_pos hw]
  exact .inl (op_pushO s x t ho i z bytes ht hi hz hsize hby hzs hs hown g u hx hu h1 hlen hb8 hlo h)
end Go.Proofs.Ytcckipckgnkieaa
