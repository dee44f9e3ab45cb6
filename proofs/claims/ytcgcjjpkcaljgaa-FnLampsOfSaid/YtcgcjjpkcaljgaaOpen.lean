/-
  How the arguments of the laws are opened: a slice of bytes, of ints, of bools.
-/
import Derived.Test.YtcgcjjpkcaljgaaRows
import Derived.Test.YtcgcjjpkcaljgaaSl
import Derived.ProofKit
import Derived.OpenShut
import Derived.ChangeOld
import Derived.Deep.Slices
import Derived.Deep.Fields
namespace Go.Proofs.Ytcgcjjpkcaljgaa
open Go.RowKit Go.ChangeShapes Go.WideShapes Go.ChangeAt

theorem own : ownKnob Try.prog.godebug = none := by kernel_rfl
theorem laidOut : laidOutB Try.prog = true := by kernel_rfl

theorem cell_spot {w : World} {a : Addr} {v : Value} (h : w.cell? a = some v) : a = ⟨a.block, a.off, none⟩ := by
  have := World.cell?_spot h
  cases a; simp_all

/-- The elements of a slice of one-cell values, at a plain address. -/
theorem at_plain {w : World} {x : Addr} {n : Nat} {f : Nat → Value} (h : ∀ i, i < n → w.cell? (x.add i) = some (f i)) (hn : 0 < n) :
    ∃ b o, x = ⟨b, o, none⟩ ∧ ∀ i, i < n → w.cell? ⟨b, o + i, none⟩ = some (f i) := by
  have h0 := h 0 hn
  have hx : x.add 0 = x := by simp [Addr.add]
  rw [hx] at h0
  have hs := cell_spot h0
  refine ⟨x.block, x.off, hs, fun i hi => ?_⟩
  have := h i hi
  rw [hs] at this
  by_cases h0 : i = 0
  · subst h0; simpa [Addr.add] using this
  · simpa [Addr.add, h0] using this

theorem open_bytes {H : Type} {enc : TypeId × Value → H} {P : Program} {W : World} {base : Nat} {spare : Nat → Bool} {held : Bool} {t e : TypeId} {a : Option Addr} {len cap : Nat} {d : DataW H} {p : List MemPlace}
    (ht : P.underlying t = some (.slice e)) (he : P.underlying e = some (.int .u8)) (hC : P.cellsOf e = 1) (h : DataW.Trod enc P W base spare held t (.slice a len cap) d p) :
    (len = 0 ∨ ∃ ab ao, ∃ bs : Nat → Int, a = some ⟨ab, ao, none⟩ ∧ ∀ i, i < len → W.cell? ⟨ab, ao + i, none⟩ = some (.int .u8 (bs i)) ∧ 0 ≤ bs i ∧ bs i ≤ 255) ∧ len ≤ cap := by
  obtain ⟨fuel, hf⟩ := h
  rcases open_ints ht he hC hf with ⟨hcs, _⟩ | ⟨x, l, c, zs, hcs, _, hl, hm, hz, _, hcell, hwz⟩
  · simp [Value.cells] at hcs
    obtain ⟨rfl, rfl, rfl⟩ := hcs
    exact ⟨.inl rfl, by omega⟩
  · simp [Value.cells] at hcs
    obtain ⟨rfl, rfl, rfl⟩ := hcs
    refine ⟨?_, hl⟩
    have hzl : len ≤ zs.length := by first | (rw [hz]; split <;> omega) | omega
    by_cases h0 : len = 0
    · exact .inl h0
    obtain ⟨b, o, hx, hc⟩ := at_plain (n := len) (f := fun i => .int .u8 (zs.getD i 0)) (fun i hi => hcell i (by omega)) (by omega)
    refine .inr ⟨b, o, fun i => zs.getD i 0, by rw [hx], fun i hi => ⟨hc i hi, ?_⟩⟩
    have hmem : zs.getD i 0 ∈ zs := by
      have hi' : i < zs.length := by omega
      simp [hi']
    have := hwz _ hmem
    simpa [Lit.wf, IntKind.min, IntKind.max, IntKind.signed, IntKind.bits] using this

theorem open_intsAt {H : Type} {enc : TypeId × Value → H} {P : Program} {W : World} {base : Nat} {spare : Nat → Bool} {held : Bool} {t e : TypeId} {a : Option Addr} {len cap : Nat} {d : DataW H} {p : List MemPlace}
    (ht : P.underlying t = some (.slice e)) (he : P.underlying e = some (.int .i64)) (hC : P.cellsOf e = 1) (h : DataW.Trod enc P W base spare held t (.slice a len cap) d p) :
    ∃ zs : List Int, zs.length = len ∧ RdL fI W a zs ∧ len ≤ cap ∧ cap ≤ maxLen := by
  obtain ⟨fuel, hf⟩ := h
  rcases open_ints ht he hC hf with ⟨hcs, _⟩ | ⟨x, l, c, zs, hcs, _, hl, hm, hz, _, hcell, hwz⟩
  · simp [Value.cells] at hcs
    obtain ⟨rfl, rfl, rfl⟩ := hcs
    exact ⟨[], rfl, .inl rfl, by omega, by unfold maxLen; omega⟩
  · simp [Value.cells] at hcs
    obtain ⟨rfl, rfl, rfl⟩ := hcs
    have hzl : len ≤ zs.length := by first | (rw [hz]; split <;> omega) | omega
    refine ⟨zs.take len, by simp; omega, ?_, hl, hm⟩
    by_cases h0 : len = 0
    · left
      simp [h0]
    obtain ⟨b, o, hx, hc⟩ := at_plain (n := len) (f := fun i => .int .i64 (zs.getD i 0)) (fun i hi => hcell i (by omega)) (by omega)
    refine .inr ⟨b, o, by rw [hx], fun i y hy => ?_⟩
    rw [List.getElem?_take] at hy
    split at hy
    · rename_i hi
      rw [hc i hi, List.getD_eq_getElem?_getD, hy]
      rfl
    · cases hy

theorem open_boolsAt {H : Type} {enc : TypeId × Value → H} {P : Program} {W : World} {base : Nat} {spare : Nat → Bool} {held : Bool} {t e : TypeId} {a : Option Addr} {len cap : Nat} {d : DataW H} {p : List MemPlace}
    (ht : P.underlying t = some (.slice e)) (he : P.underlying e = some .bool) (hC : P.cellsOf e = 1) (h : DataW.Trod enc P W base spare held t (.slice a len cap) d p) :
    ∃ zs : List Bool, zs.length = len ∧ RdL fB W a zs ∧ len ≤ cap ∧ cap ≤ maxLen := by
  obtain ⟨fuel, hf⟩ := h
  rcases Go.Deep.open_slice ht hf with ⟨hcs, _⟩ | ⟨x, l, c, m, n, D, Pl, hcs, _, hl, hm, hmm, _, hi⟩
  · simp [Value.cells] at hcs
    obtain ⟨rfl, rfl, rfl⟩ := hcs
    exact ⟨[], rfl, .inl rfl, by omega, by unfold maxLen; omega⟩
  · simp [Value.cells] at hcs
    obtain ⟨rfl, rfl, rfl⟩ := hcs
    have hlm : len ≤ m := by rw [hmm]; split <;> omega
    have each : ∀ i, i < len → ∃ b : Bool, W.cell? (x.add i) = some (.bool b) := by
      intro i hlt
      obtain ⟨cs', hc, ht'⟩ := hi i (by omega)
      obtain ⟨b, rfl, _⟩ := DataW.trod_bool he ht'
      rw [hC] at hc
      obtain ⟨_, _, hat⟩ := World.cells?_some hc
      have := hat 0 (by omega)
      refine ⟨b, ?_⟩
      simpa [Addr.add] using this
    have each' : ∀ i, ∃ b : Bool, i < len → W.cell? (x.add i) = some (.bool b) := fun i => by
      by_cases h : i < len
      · obtain ⟨b, hb⟩ := each i h
        exact ⟨b, fun _ => hb⟩
      · exact ⟨false, fun h' => absurd h' h⟩
    obtain ⟨g, hg⟩ := Classical.axiomOfChoice each'
    refine ⟨(List.range len).map g, by simp, ?_, hl, hm⟩
    by_cases h0 : len = 0
    · left
      simp [h0]
    obtain ⟨b, o, hx, hcell⟩ := at_plain (n := len) (f := fun i => .bool (g i)) hg (by omega)
    refine .inr ⟨b, o, by rw [hx], fun i y hy => ?_⟩
    simp only [List.getElem?_map] at hy
    have hlt : i < len := by
      rcases Nat.lt_or_ge i len with h | h
      · exact h
      · simp [h] at hy
    simp [hlt] at hy
    rw [hcell i hlt, hy]
end Go.Proofs.Ytcgcjjpkcaljgaa
