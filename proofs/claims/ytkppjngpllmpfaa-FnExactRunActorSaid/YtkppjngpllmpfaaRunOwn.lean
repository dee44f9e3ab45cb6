/-
  A slice of slices of the call's own.
-/
import Derived.Test.YtkppjngpllmpfaaRunSpec
import Derived.Test.YtkppjngpllmpfaaAcDraw2
namespace Go.Proofs.Ytkppjngpllmpfaa
open Go.RowKit
set_option linter.unusedVariables false

theorem info_SB : (Try.prog.info? 23).map (fun i => (i.zero, i.size, i.bytes)) = some (some (Value.slice none 0 0), 1, 24) := by kernel_rfl

theorem OwnO.capLe {α : Type} {f : α → Value} {w : World} {lo : Nat} {e : TypeId} {A : Option Addr} {cap : Nat} {xs : List α} (h : OwnO f w lo e A cap xs) : xs.length ≤ cap := by
  rcases h with ⟨_, rfl, _⟩ | ⟨_, _, _, _, _, _, h, _⟩
  · simp
  · exact h

/-- A slice of slices of Booleans, all of them the call's own. -/
def OwnSS (w : World) (lo : Nat) (C : Option Addr) (c : Nat) (css : List (List Bool)) : Prop :=
  ∃ ps : List (Option Addr × Nat × Nat), ps.length = css.length ∧ OwnO fS w lo 23 C c ps ∧ ∀ k (h : k < css.length) (h' : k < ps.length), ps[k].2.1 = css[k].length ∧ OwnO fB w lo 4 ps[k].1 ps[k].2.2 css[k]
section
variable {w w' : World} {lo : Nat} {C : Option Addr} {c : Nat} {css : List (List Bool)}
theorem OwnSS.rd (h : OwnSS w lo C c css) : RdSS fB w C css := by
  obtain ⟨ps, h1, h2, h3⟩ := h
  exact ⟨ps, h2.rd, h1, fun k h h' => ⟨(h3 k h h').1, (h3 k h h').2.rd⟩⟩
theorem OwnSS.capLe (h : OwnSS w lo C c css) : css.length ≤ c := by
  obtain ⟨ps, h1, h2, h3⟩ := h
  have := h2.capLe
  omega
theorem OwnSS.lt (h : OwnSS w lo C c css) : ∀ b, blk C = some b → lo ≤ b ∧ b < w.heap.size := by
  obtain ⟨ps, h1, h2, h3⟩ := h
  exact h2.lt
theorem OwnSS.alloc (h : OwnSS w lo C c css) (o : Obj) : OwnSS (w.alloc o) lo C c css := by
  obtain ⟨ps, h1, h2, h3⟩ := h
  exact ⟨ps, h1, h2.alloc o, fun k h h' => ⟨(h3 k h h').1, (h3 k h h').2.alloc o⟩⟩
/-- What writes only a block below the call's own leaves it. -/
theorem OwnSS.grown (h : OwnSS w lo C c css) {rb : Nat} (hg : w.grownBy w' (some rb)) (hr : rb < lo) : OwnSS w' lo C c css := by
  obtain ⟨ps, h1, h2, h3⟩ := h
  exact ⟨ps, h1, h2.grown hg (or_rb (own_ne h2 rb (.inl hr))), fun k h h' => ⟨(h3 k h h').1, (h3 k h h').2.grown hg (or_rb (own_ne (h3 k h h').2 rb (.inl hr)))⟩⟩
theorem OwnSS.below (h : OwnSS w lo C c css) (hB : Below w.heap.size w w') : OwnSS w' lo C c css := by
  obtain ⟨ps, h1, h2, h3⟩ := h
  exact ⟨ps, h1, h2.below hB, fun k h h' => ⟨(h3 k h h').1, (h3 k h h').2.below hB⟩⟩
/-- After an append of a slice: the elements lie in other blocks, for they are of another type. -/
theorem OwnSS.push {ps : List (Option Addr × Nat × Nat)} (h1 : ps.length = css.length) (h2 : OwnO fS w lo 23 C c ps) (h3 : ∀ k (h : k < css.length) (h' : k < ps.length), ps[k].2.1 = css[k].length ∧ OwnO fB w lo 4 ps[k].1 ps[k].2.2 css[k])
    {A : Option Addr} {d : Nat} {xs : List Bool} (hx : OwnO fB w lo 4 A d xs) {C' : Option Addr} {c' : Nat} (o : Obj)
    (hp : OwnO fS w' lo 23 C' c' (ps ++ [(A, xs.length, d)])) (hg : (w.alloc o).grownBy w' (blk C)) : OwnSS w' lo C' c' (css ++ [xs]) := by
  refine ⟨ps ++ [(A, xs.length, d)], by simp [h1], hp, fun k h h' => ?_⟩
  by_cases hk : k < css.length
  · have hk' : k < ps.length := by omega
    rw [List.getElem_append_left hk, List.getElem_append_left hk']
    exact ⟨(h3 k hk hk').1, ((h3 k hk hk').2.alloc o).grown hg (sepT h2 (h3 k hk hk').2 (by decide)).or⟩
  · have hk2 : k = css.length := by simp at h; omega
    subst hk2
    rw [List.getElem_append_right (by omega), List.getElem_append_right (by omega)]
    simp only [h1, Nat.sub_self, List.getElem_cons_zero]
    exact ⟨trivial, (hx.alloc o).grown hg (sepT h2 hx (by decide)).or⟩
end
end Go.Proofs.Ytkppjngpllmpfaa
