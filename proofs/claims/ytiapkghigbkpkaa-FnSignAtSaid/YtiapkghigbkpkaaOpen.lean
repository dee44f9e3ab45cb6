/-
  How the arguments of the laws are opened: a slice of bytes, of ints, of bools.
-/
import Derived.Test.YtiapkghigbkpkaaRows
import Derived.Test.YtiapkghigbkpkaaBase
import Derived.ProofKit
import Derived.OpenShut
import Derived.ChangeOld
namespace Go.Proofs.Ytiapkghigbkpkaa
open Go.RowKit Go.ChangeShapes Go.WideShapes Go.ChangeAt

theorem own : ownKnob Try.prog.godebug = none := by kernel_rfl
theorem laidOut : laidOutB Try.prog = true := by kernel_rfl

theorem cell_spot {w : World} {a : Addr} {v : Value} (h : w.cell? a = some v) : a = ⟨a.block, a.off, none⟩ := by
  have := World.cell?_spot h
  cases a; simp_all

/-- The elements of a slice of one-cell values, at a plain address. -/
theorem at_plain {w : World} {x : Addr} {n : Nat} {f : Nat → Value} (h : ∀ i, i < n → w.cell? (x.add i) = some (f i)) (hn : 0 < n) :
    ∃ b o, x = ⟨b, o, none⟩ ∧ ∀ i, i < n → w.cell? ⟨b, o + i, none⟩ = some (f i) := by
  have h0 := h 0 hn
  have hx : x.add 0 = x := by simp [Addr.add]
  rw [hx] at h0
  have hs := cell_spot h0
  refine ⟨x.block, x.off, hs, fun i hi => ?_⟩
  have := h i hi
  rw [hs] at this
  by_cases h0 : i = 0
  · subst h0; simpa [Addr.add] using this
  · simpa [Addr.add, h0] using this

theorem open_bytes {H : Type} {enc : TypeId × Value → H} {P : Program} {W : World} {base : Nat} {spare : Nat → Bool} {held : Bool} {t e : TypeId} {a : Option Addr} {len cap : Nat} {d : DataW H} {p : List MemPlace}
    (ht : P.underlying t = some (.slice e)) (he : P.underlying e = some (.int .u8)) (hC : P.cellsOf e = 1) (h : DataW.Trod enc P W base spare held t (.slice a len cap) d p) :
    (len = 0 ∨ ∃ ab ao, ∃ bs : Nat → Int, a = some ⟨ab, ao, none⟩ ∧ ∀ i, i < len → W.cell? ⟨ab, ao + i, none⟩ = some (.int .u8 (bs i)) ∧ 0 ≤ bs i ∧ bs i ≤ 255) ∧ len ≤ cap := by
  obtain ⟨fuel, hf⟩ := h
  rcases open_ints ht he hC hf with ⟨hcs, _⟩ | ⟨x, l, c, zs, hcs, _, hl, hm, hz, _, hcell, hwz⟩
  · simp [Value.cells] at hcs
    obtain ⟨rfl, rfl, rfl⟩ := hcs
    exact ⟨.inl rfl, by omega⟩
  · simp [Value.cells] at hcs
    obtain ⟨rfl, rfl, rfl⟩ := hcs
    refine ⟨?_, hl⟩
    have hzl : len ≤ zs.length := by first | (rw [hz]; split <;> omega) | omega
    by_cases h0 : len = 0
    · exact .inl h0
    obtain ⟨b, o, hx, hc⟩ := at_plain (n := len) (f := fun i => .int .u8 (zs.getD i 0)) (fun i hi => hcell i (by omega)) (by omega)
    refine .inr ⟨b, o, fun i => zs.getD i 0, by rw [hx], fun i hi => ⟨hc i hi, ?_⟩⟩
    have hmem : zs.getD i 0 ∈ zs := by
      have hi' : i < zs.length := by omega
      simp [hi']
    have := hwz _ hmem
    simpa [Lit.wf, IntKind.min, IntKind.max, IntKind.signed, IntKind.bits] using this
end Go.Proofs.Ytiapkghigbkpkaa
