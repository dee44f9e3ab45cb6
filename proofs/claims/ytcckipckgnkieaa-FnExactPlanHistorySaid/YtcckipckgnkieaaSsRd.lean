/-
  A slice of slices that is read.
-/
import Derived.Test.YtcckipckgnkieaaLs
namespace Go.Proofs.Ytcckipckgnkieaa
open Go.RowKit
set_option linter.unusedVariables false

/-! ### blocks of different element types differ -/
theorem sepT {α β : Type} {f : α → Value} {g : β → Value} {w : World} {lo lo' : Nat} {T T' : TypeId} {A B : Option Addr} {c d : Nat} {xs : List α} {ys : List β} (h : OwnO f w lo T A c xs) (h' : OwnO g w lo' T' B d ys) (hne : T ≠ T') : Sep A B := by
  intro b h1 h2
  rcases h with ⟨rfl, _⟩ | ⟨g1, o1, cur, rfl, _, hb, _⟩
  · simp at h1
  rcases h' with ⟨rfl, _⟩ | ⟨g2, o2, cur2, rfl, _, hb2, _⟩
  · simp at h2
  simp at h1 h2
  subst h1 h2
  unfold Blk at hb hb2
  rw [hb] at hb2
  injection hb2 with e
  injection e with _ e2
  exact hne e2
theorem neT {α : Type} {f : α → Value} {w : World} {lo : Nat} {T T' : TypeId} {A : Option Addr} {c g : Nat} {xs : List α} {cs : Array Value} (h : OwnO f w lo T A c xs) (hb' : Blk w g T' cs) (hne : T ≠ T') : ∀ b, blk A = some b → b ≠ g := by
  intro b h1 e
  rcases h with ⟨rfl, _⟩ | ⟨g1, o1, cur, rfl, _, hb, _⟩
  · simp at h1
  simp at h1
  subst h1 e
  unfold Blk at hb hb'
  rw [hb] at hb'
  injection hb' with e
  injection e with _ e2
  exact hne e2

/-! ### a slice of slices that is read -/
def fS (p : Option Addr × Nat × Nat) : Value := .slice p.1 p.2.1 p.2.2
def RdSS {α : Type} (f : α → Value) (w : World) (C : Option Addr) (css : List (List α)) : Prop :=
  ∃ ps : List (Option Addr × Nat × Nat), RdL fS w C ps ∧ ps.length = css.length ∧ ∀ k (h : k < css.length) (h' : k < ps.length), ps[k].2.1 = css[k].length ∧ RdL f w ps[k].1 css[k]
section
variable {α : Type} {f : α → Value} {w w' : World} {C : Option Addr} {css : List (List α)}
theorem RdSS.at (h : RdSS f w C css) {k : Nat} (hk : k < css.length) : ∃ b o A c, C = some ⟨b, o, none⟩ ∧ w.cell? ⟨b, o + k, none⟩ = some (.slice A css[k].length c) ∧ RdL f w A css[k] := by
  obtain ⟨ps, h1, h2, h3⟩ := h
  have hk' : k < ps.length := by omega
  obtain ⟨b, o, hC, hc⟩ := h1.at hk'
  obtain ⟨h4, h5⟩ := h3 k hk hk'
  exact ⟨b, o, ps[k].1, ps[k].2.2, hC, by rw [hc, fS, h4], h5⟩
theorem RdSS.below (h : RdSS f w C css) (hb : Below w.heap.size w w') : RdSS f w' C css := by
  obtain ⟨ps, h1, h2, h3⟩ := h
  exact ⟨ps, h1.below hb, h2, fun k h h' => ⟨(h3 k h h').1, (h3 k h h').2.below hb⟩⟩
theorem RdSS.alloc (h : RdSS f w C css) (o : Obj) : RdSS f (w.alloc o) C css := h.below ((Below.refl _ _).alloc (Nat.le_refl _) _)
theorem RdSS.drew (h : RdSS f w C css) : RdSS f w.drew C css := h.below (Below.refl _ _).drew
end

end Go.Proofs.Ytcckipckgnkieaa
