/-
  How an argument is opened that is a plan: a slice of slices and a slice of stages.
-/
import Derived.Test.YtcckipckgnkieaaOpenSS
import Derived.Test.YtcckipckgnkieaaPlSt6
namespace Go.Proofs.Ytcckipckgnkieaa
open Go.RowKit Go.ChangeShapes Go.WideShapes Go.ChangeAt
set_option linter.unusedVariables false

theorem list_2 {l : List Value} (hl : l.length = 2) {u0 u1 : Value} (e0 : l[0]? = some u0) (e1 : l[1]? = some u1) : l = [u0, u1] := by
  match l, hl with
  | [c0, c1], _ =>
    simp at e0 e1
    rw [e0, e1]
theorem add_plain (b o n : Nat) : Addr.add ⟨b, o, none⟩ n = ⟨b, o + n, none⟩ := by
  by_cases h : n = 0
  · subst h; simp [Addr.add]
  · simp [Addr.add, h]
/-- The two cells of every element of a slice of structs of a list and a number. -/
theorem open_stgsAt {H : Type} {enc : TypeId × Value → H} {P : Program} {W : World} {base : Nat} {spare : Nat → Bool} {held : Bool} {t e e0 : TypeId} {fs : Array Field} {f0 f1 : Field} {a : Option Addr} {len cap : Nat} {d : DataW H} {p : List MemPlace}
    (ht : P.underlying t = some (.slice e)) (he : P.underlying e = some (.struct fs)) (hone : Go.Deep.oneCellFields P fs = true) (hC : P.cellsOf e = 2) (hf0 : fs[0]? = some f0) (hf1 : fs[1]? = some f1)
    (hu0 : P.underlying f0.type = some (.slice e0)) (hi0 : P.underlying e0 = some (.int .i64)) (hC0 : P.cellsOf e0 = 1) (hu1 : P.underlying f1.type = some (.int .i64)) (h : DataW.Trod enc P W base spare held t (.slice a len cap) d p) :
    ∃ sg : List (List Int × Int), sg.length = len ∧ (∀ tb, RdG W a ⟨tb, sg⟩) ∧ (∀ tb k, k < sg.length → (ph ⟨tb, sg⟩ k).length ≤ maxLen) ∧ len ≤ cap ∧ cap ≤ maxLen := by
  obtain ⟨fuel, hf⟩ := h
  rcases Go.Deep.open_slice ht hf with ⟨hcs, _⟩ | ⟨x, l, c, m, n, D, Pl, hcs, _, hl, hm, hmm, _, hi⟩
  · simp [Value.cells] at hcs
    obtain ⟨rfl, rfl, rfl⟩ := hcs
    exact ⟨[], rfl, fun tb i hi => by simp at hi, fun tb k h => by simp at h, by omega, by unfold maxLen; omega⟩
  · simp [Value.cells] at hcs
    obtain ⟨rfl, rfl, rfl⟩ := hcs
    have hlm : len ≤ m := by rw [hmm]; split <;> omega
    have each : ∀ i, ∃ q : (Option Addr × Nat) × (List Int × Int), i < len → W.cell? (x.add (i * 2)) = some (.slice q.1.1 q.2.1.length q.1.2) ∧ W.cell? (x.add (i * 2 + 1)) = some (.int .i64 q.2.2) ∧ RdL fI W q.1.1 q.2.1 ∧ q.2.1.length ≤ q.1.2 ∧ q.1.2 ≤ maxLen := by
      intro i
      by_cases hlt : i < len
      · obtain ⟨cs', hc, ht'⟩ := hi i (by omega)
        rw [hC] at hc
        obtain ⟨xs, n', _, hx, _, hlen2, hg⟩ := DataW.trod_struct he ht'
        obtain ⟨_, hcl, hat⟩ := World.cells?_some hc
        match cs', hcl with
        | [u0, u1], _ =>
          obtain ⟨o0, k0⟩ := Go.Deep.hone_of hone 0 f0 hf0
          obtain ⟨o1, k1⟩ := Go.Deep.hone_of hone 1 f1 hf1
          have h0 := hg 0 f0 hf0
          have h1 := hg 1 f1 hf1
          have hs0 : 0 < fs.size := (Array.getElem?_eq_some_iff.1 hf0).1
          have hs1 : 1 < fs.size := (Array.getElem?_eq_some_iff.1 hf1).1
          rw [o0, k0, List.getElem?_eq_getElem (by omega)] at h0
          rw [o1, k1, List.getElem?_eq_getElem (by omega)] at h1
          obtain ⟨A, c2, zs, e1, hr, hz1, hz2⟩ := open_intsF hu0 hi0 hC0 (show DataW.trod enc P W base spare held n' f0.type [u0] = _ from h0)
          obtain ⟨g, e2, _⟩ := open_intF hu1 (show DataW.trod enc P W base spare held n' f1.type [u1] = _ from h1)
          subst e1 e2
          have hc0 := hat 0 (by omega)
          have hc1 := hat 1 (by omega)
          refine ⟨((A, c2), (zs, g)), fun _ => ⟨?_, ?_, hr, hz1, hz2⟩⟩
          · rw [Go.Deep.add_add] at hc0
            simpa using hc0
          · rw [Go.Deep.add_add] at hc1
            simpa using hc1
      · exact ⟨((none, 0), ([], 0)), fun h' => absurd h' hlt⟩
    obtain ⟨g, hg⟩ := Classical.axiomOfChoice each
    have hph : ∀ tb i, i < len → ph ⟨tb, (List.range len).map fun i => (g i).2⟩ i = (g i).2.1 := fun tb i hi => by simp [ph, hi]
    have hgr : ∀ tb i, i < len → gr ⟨tb, (List.range len).map fun i => (g i).2⟩ i = (g i).2.2 := fun tb i hi => by simp [gr, hi]
    refine ⟨(List.range len).map fun i => (g i).2, by simp, fun tb i hi => ?_, fun tb k hk => ?_, hl, hm⟩
    · replace hi : i < len := by simpa using hi
      obtain ⟨h1, h2, h3, h4, h5⟩ := hg i hi
      have hx : x = ⟨x.block, x.off, none⟩ := by
        have := (hg 0 (by omega)).1
        have hx0 : x.add (0 * 2) = x := by simp [Addr.add]
        rw [hx0] at this
        exact cell_spot this
      refine ⟨x.block, x.off, (g i).1.1, (g i).1.2, by rw [← hx], ?_, ?_, by rw [hph tb i hi]; exact h3, by rw [hph tb i hi]; exact h4⟩
      · rw [hph tb i hi, ← h1]
        congr 1
        rw [hx, add_plain]
      · rw [hgr tb i hi, ← h2]
        congr 1
    · replace hk : k < len := by simpa using hk
      rw [hph tb k hk]
      have := hg k hk
      omega
end Go.Proofs.Ytcckipckgnkieaa
