/-
  How an argument is opened that is a slice of slices.
-/
import Derived.Test.YtcckipckgnkieaaOpen
import Derived.Test.YtcckipckgnkieaaSs
namespace Go.Proofs.Ytcckipckgnkieaa
open Go.RowKit Go.ChangeShapes Go.WideShapes Go.ChangeAt
set_option linter.unusedVariables false

theorem open_ssAt {α : Type} {f : α → Value} {H : Type} {enc : TypeId × Value → H} {P : Program} {W : World} {base : Nat} {spare : Nat → Bool} {held : Bool} {t e : TypeId} {a : Option Addr} {len cap : Nat} {d : DataW H} {p : List MemPlace}
    (ht : P.underlying t = some (.slice e)) (hC : P.cellsOf e = 1)
    (hrow : ∀ n cs y, DataW.trod enc P W base spare held n e cs = some y → ∃ (A : Option Addr) (zs : List α) (c : Nat), cs = [.slice A zs.length c] ∧ RdL f W A zs ∧ zs.length ≤ maxLen)
    (h : DataW.Trod enc P W base spare held t (.slice a len cap) d p) :
    ∃ css : List (List α), css.length = len ∧ RdSS f W a css ∧ (∀ k (h : k < css.length), css[k].length ≤ maxLen) ∧ len ≤ cap ∧ cap ≤ maxLen := by
  obtain ⟨fuel, hf⟩ := h
  rcases Go.Deep.open_slice ht hf with ⟨hcs, _⟩ | ⟨x, l, c, m, n, D, Pl, hcs, _, hl, hm, hmm, _, hi⟩
  · simp [Value.cells] at hcs
    obtain ⟨rfl, rfl, rfl⟩ := hcs
    exact ⟨[], rfl, ⟨[], .inl rfl, rfl, fun k h => by simp at h⟩, fun k h => by simp at h, by omega, by unfold maxLen; omega⟩
  · simp [Value.cells] at hcs
    obtain ⟨rfl, rfl, rfl⟩ := hcs
    have hlm : len ≤ m := by rw [hmm]; split <;> omega
    have each : ∀ i, ∃ q : Option Addr × List α × Nat, i < len → W.cell? (x.add i) = some (.slice q.1 q.2.1.length q.2.2) ∧ RdL f W q.1 q.2.1 ∧ q.2.1.length ≤ maxLen := by
      intro i
      by_cases hlt : i < len
      · obtain ⟨cs', hc, ht'⟩ := hi i (by omega)
        obtain ⟨A, zs, c2, rfl, hr, hz⟩ := hrow _ _ _ ht'
        rw [hC] at hc
        obtain ⟨_, _, hat⟩ := World.cells?_some hc
        have := hat 0 (by omega)
        exact ⟨(A, zs, c2), fun _ => ⟨by simpa [Addr.add] using this, hr, hz⟩⟩
      · exact ⟨(none, [], 0), fun h' => absurd h' hlt⟩
    obtain ⟨g, hg⟩ := Classical.axiomOfChoice each
    refine ⟨(List.range len).map fun i => (g i).2.1, by simp, ⟨(List.range len).map fun i => ((g i).1, (g i).2.1.length, (g i).2.2), ?_, by simp, fun k h1 h2 => ?_⟩, fun k h => ?_, hl, hm⟩
    · by_cases h0 : len = 0
      · left
        simp [h0]
      obtain ⟨b, o, hx, hcell⟩ := at_plain (n := len) (f := fun i => .slice (g i).1 (g i).2.1.length (g i).2.2) (fun i hi => (hg i hi).1) (by omega)
      refine .inr ⟨b, o, by rw [hx], fun i y hy => ?_⟩
      simp only [List.getElem?_map] at hy
      have hlt : i < len := by
        rcases Nat.lt_or_ge i len with h | h
        · exact h
        · simp [h] at hy
      simp [hlt] at hy
      rw [hcell i hlt, ← hy]
      rfl
    · simp at h1
      simp only [List.getElem_map, List.getElem_range]
      exact ⟨trivial, (hg k h1).2.1⟩
    · simp at h
      simp only [List.getElem_map, List.getElem_range]
      exact (hg k h).2.2
theorem open_boolssAt {H : Type} {enc : TypeId × Value → H} {P : Program} {W : World} {base : Nat} {spare : Nat → Bool} {held : Bool} {t e e0 : TypeId} {a : Option Addr} {len cap : Nat} {d : DataW H} {p : List MemPlace}
    (ht : P.underlying t = some (.slice e)) (he : P.underlying e = some (.slice e0)) (he0 : P.underlying e0 = some .bool) (hC : P.cellsOf e = 1) (hC0 : P.cellsOf e0 = 1) (h : DataW.Trod enc P W base spare held t (.slice a len cap) d p) :
    ∃ css : List (List Bool), css.length = len ∧ RdSS fB W a css ∧ (∀ k (h : k < css.length), css[k].length ≤ maxLen) ∧ len ≤ cap ∧ cap ≤ maxLen := by
  refine open_ssAt ht hC (fun n cs y hy => ?_) h
  rcases Go.Deep.open_slice he hy with ⟨hcs, _⟩ | ⟨x, l2, c2, m2, n2, D2, Pl2, hcs, _⟩
  · subst hcs
    exact ⟨none, [], 0, rfl, .inl rfl, by simp [maxLen]⟩
  · subst hcs
    obtain ⟨A, c3, zs, hv, hr, hz1, hz2⟩ := open_boolsF he he0 hC0 hy
    injection hv with e1 e2 e3
    subst e1 e2 e3
    exact ⟨some x, zs, c2, rfl, hr, by omega⟩
theorem open_intssAt {H : Type} {enc : TypeId × Value → H} {P : Program} {W : World} {base : Nat} {spare : Nat → Bool} {held : Bool} {t e e0 : TypeId} {a : Option Addr} {len cap : Nat} {d : DataW H} {p : List MemPlace}
    (ht : P.underlying t = some (.slice e)) (he : P.underlying e = some (.slice e0)) (he0 : P.underlying e0 = some (.int .i64)) (hC : P.cellsOf e = 1) (hC0 : P.cellsOf e0 = 1) (h : DataW.Trod enc P W base spare held t (.slice a len cap) d p) :
    ∃ css : List (List Int), css.length = len ∧ RdSS fI W a css ∧ (∀ k (h : k < css.length), css[k].length ≤ maxLen) ∧ len ≤ cap ∧ cap ≤ maxLen := by
  refine open_ssAt ht hC (fun n cs y hy => ?_) h
  rcases Go.Deep.open_slice he hy with ⟨hcs, _⟩ | ⟨x, l2, c2, m2, n2, D2, Pl2, hcs, _⟩
  · subst hcs
    exact ⟨none, [], 0, rfl, .inl rfl, by simp [maxLen]⟩
  · subst hcs
    obtain ⟨A, c3, zs, hv, hr, hz1, hz2⟩ := open_intsF he he0 hC0 hy
    injection hv with e1 e2 e3
    subst e1 e2 e3
    exact ⟨some x, zs, c2, rfl, hr, by omega⟩
end Go.Proofs.Ytcckipckgnkieaa
