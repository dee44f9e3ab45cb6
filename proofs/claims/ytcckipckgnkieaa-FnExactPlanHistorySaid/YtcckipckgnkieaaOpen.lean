/-
  How the arguments of the laws are opened: a slice of bytes, of ints, of bools.
-/
import Derived.Test.YtcckipckgnkieaaRows
import Derived.Test.YtcckipckgnkieaaSl
import Derived.ProofKit
import Derived.OpenShut
import Derived.ChangeOld
import Derived.Deep.Slices
import Derived.Deep.Fields
namespace Go.Proofs.Ytcckipckgnkieaa
open Go.RowKit Go.ChangeShapes Go.WideShapes Go.ChangeAt

theorem own : ownKnob Try.prog.godebug = none := by kernel_rfl
theorem laidOut : laidOutB Try.prog = true := by kernel_rfl

theorem cell_spot {w : World} {a : Addr} {v : Value} (h : w.cell? a = some v) : a = ⟨a.block, a.off, none⟩ := by
  have := World.cell?_spot h
  cases a; simp_all

/-- The elements of a slice of one-cell values, at a plain address. -/
theorem at_plain {w : World} {x : Addr} {n : Nat} {f : Nat → Value} (h : ∀ i, i < n → w.cell? (x.add i) = some (f i)) (hn : 0 < n) :
    ∃ b o, x = ⟨b, o, none⟩ ∧ ∀ i, i < n → w.cell? ⟨b, o + i, none⟩ = some (f i) := by
  have h0 := h 0 hn
  have hx : x.add 0 = x := by simp [Addr.add]
  rw [hx] at h0
  have hs := cell_spot h0
  refine ⟨x.block, x.off, hs, fun i hi => ?_⟩
  have := h i hi
  rw [hs] at this
  by_cases h0 : i = 0
  · subst h0; simpa [Addr.add] using this
  · simpa [Addr.add, h0] using this

theorem open_bytes {H : Type} {enc : TypeId × Value → H} {P : Program} {W : World} {base : Nat} {spare : Nat → Bool} {held : Bool} {t e : TypeId} {a : Option Addr} {len cap : Nat} {d : DataW H} {p : List MemPlace}
    (ht : P.underlying t = some (.slice e)) (he : P.underlying e = some (.int .u8)) (hC : P.cellsOf e = 1) (h : DataW.Trod enc P W base spare held t (.slice a len cap) d p) :
    (len = 0 ∨ ∃ ab ao, ∃ bs : Nat → Int, a = some ⟨ab, ao, none⟩ ∧ ∀ i, i < len → W.cell? ⟨ab, ao + i, none⟩ = some (.int .u8 (bs i)) ∧ 0 ≤ bs i ∧ bs i ≤ 255) ∧ len ≤ cap := by
  obtain ⟨fuel, hf⟩ := h
  rcases open_ints ht he hC hf with ⟨hcs, _⟩ | ⟨x, l, c, zs, hcs, _, hl, hm, hz, _, hcell, hwz⟩
  · simp [Value.cells] at hcs
    obtain ⟨rfl, rfl, rfl⟩ := hcs
    exact ⟨.inl rfl, by omega⟩
  · simp [Value.cells] at hcs
    obtain ⟨rfl, rfl, rfl⟩ := hcs
    refine ⟨?_, hl⟩
    have hzl : len ≤ zs.length := by first | (rw [hz]; split <;> omega) | omega
    by_cases h0 : len = 0
    · exact .inl h0
    obtain ⟨b, o, hx, hc⟩ := at_plain (n := len) (f := fun i => .int .u8 (zs.getD i 0)) (fun i hi => hcell i (by omega)) (by omega)
    refine .inr ⟨b, o, fun i => zs.getD i 0, by rw [hx], fun i hi => ⟨hc i hi, ?_⟩⟩
    have hmem : zs.getD i 0 ∈ zs := by
      have hi' : i < zs.length := by omega
      simp [hi']
    have := hwz _ hmem
    simpa [Lit.wf, IntKind.min, IntKind.max, IntKind.signed, IntKind.bits] using this

theorem open_intsAt {H : Type} {enc : TypeId × Value → H} {P : Program} {W : World} {base : Nat} {spare : Nat → Bool} {held : Bool} {t e : TypeId} {a : Option Addr} {len cap : Nat} {d : DataW H} {p : List MemPlace}
    (ht : P.underlying t = some (.slice e)) (he : P.underlying e = some (.int .i64)) (hC : P.cellsOf e = 1) (h : DataW.Trod enc P W base spare held t (.slice a len cap) d p) :
    ∃ zs : List Int, zs.length = len ∧ RdL fI W a zs ∧ len ≤ cap ∧ cap ≤ maxLen := by
  obtain ⟨fuel, hf⟩ := h
  rcases open_ints ht he hC hf with ⟨hcs, _⟩ | ⟨x, l, c, zs, hcs, _, hl, hm, hz, _, hcell, hwz⟩
  · simp [Value.cells] at hcs
    obtain ⟨rfl, rfl, rfl⟩ := hcs
    exact ⟨[], rfl, .inl rfl, by omega, by unfold maxLen; omega⟩
  · simp [Value.cells] at hcs
    obtain ⟨rfl, rfl, rfl⟩ := hcs
    have hzl : len ≤ zs.length := by first | (rw [hz]; split <;> omega) | omega
    refine ⟨zs.take len, by simp; omega, ?_, hl, hm⟩
    by_cases h0 : len = 0
    · left
      simp [h0]
    obtain ⟨b, o, hx, hc⟩ := at_plain (n := len) (f := fun i => .int .i64 (zs.getD i 0)) (fun i hi => hcell i (by omega)) (by omega)
    refine .inr ⟨b, o, by rw [hx], fun i y hy => ?_⟩
    rw [List.getElem?_take] at hy
    split at hy
    · rename_i hi
      rw [hc i hi, List.getD_eq_getElem?_getD, hy]
      rfl
    · cases hy

theorem open_boolsAt {H : Type} {enc : TypeId × Value → H} {P : Program} {W : World} {base : Nat} {spare : Nat → Bool} {held : Bool} {t e : TypeId} {a : Option Addr} {len cap : Nat} {d : DataW H} {p : List MemPlace}
    (ht : P.underlying t = some (.slice e)) (he : P.underlying e = some .bool) (hC : P.cellsOf e = 1) (h : DataW.Trod enc P W base spare held t (.slice a len cap) d p) :
    ∃ zs : List Bool, zs.length = len ∧ RdL fB W a zs ∧ len ≤ cap ∧ cap ≤ maxLen := by
  obtain ⟨fuel, hf⟩ := h
  rcases Go.Deep.open_slice ht hf with ⟨hcs, _⟩ | ⟨x, l, c, m, n, D, Pl, hcs, _, hl, hm, hmm, _, hi⟩
  · simp [Value.cells] at hcs
    obtain ⟨rfl, rfl, rfl⟩ := hcs
    exact ⟨[], rfl, .inl rfl, by omega, by unfold maxLen; omega⟩
  · simp [Value.cells] at hcs
    obtain ⟨rfl, rfl, rfl⟩ := hcs
    have hlm : len ≤ m := by rw [hmm]; split <;> omega
    have each : ∀ i, i < len → ∃ b : Bool, W.cell? (x.add i) = some (.bool b) := by
      intro i hlt
      obtain ⟨cs', hc, ht'⟩ := hi i (by omega)
      obtain ⟨b, rfl, _⟩ := DataW.trod_bool he ht'
      rw [hC] at hc
      obtain ⟨_, _, hat⟩ := World.cells?_some hc
      have := hat 0 (by omega)
      refine ⟨b, ?_⟩
      simpa [Addr.add] using this
    have each' : ∀ i, ∃ b : Bool, i < len → W.cell? (x.add i) = some (.bool b) := fun i => by
      by_cases h : i < len
      · obtain ⟨b, hb⟩ := each i h
        exact ⟨b, fun _ => hb⟩
      · exact ⟨false, fun h' => absurd h' h⟩
    obtain ⟨g, hg⟩ := Classical.axiomOfChoice each'
    refine ⟨(List.range len).map g, by simp, ?_, hl, hm⟩
    by_cases h0 : len = 0
    · left
      simp [h0]
    obtain ⟨b, o, hx, hcell⟩ := at_plain (n := len) (f := fun i => .bool (g i)) hg (by omega)
    refine .inr ⟨b, o, by rw [hx], fun i y hy => ?_⟩
    simp only [List.getElem?_map] at hy
    have hlt : i < len := by
      rcases Nat.lt_or_ge i len with h | h
      · exact h
      · simp [h] at hy
    simp [hlt] at hy
    rw [hcell i hlt, hy]

/-- A struct of one-cell fields by value: its cells, and what each reads as. -/
theorem open_struct {H : Type} {enc : TypeId × Value → H} {P : Program} {W : World} {base : Nat} {spare : Nat → Bool} {held : Bool} {r : Reach} {b0 : Nat} {t : TypeId} {fs : Array Field} {v : Value} {d : DataW H} {p : List MemPlace}
    (hs : P.underlying t = some (.struct fs)) (hone : Go.Deep.oneCellFields P fs = true) (hC : P.cellsOf t = fs.size) (hv : Value.okWide P W r b0 t v) (h : DataW.Trod enc P W base spare held t v d p) :
    ∃ (cs : List Value) (n : Nat), v = .agg cs.toArray ∧ cs.length = fs.size ∧ ∀ (j : Nat) (f : Field), fs[j]? = some f → ∃ u y, cs[j]? = some u ∧ DataW.trod enc P W base spare held n f.type [u] = some y := by
  obtain ⟨cs, rfl, hsz⟩ := okWide_struct hs hv
  obtain ⟨fuel, hf⟩ := h
  obtain ⟨xs, n, _, hx, _, hlen, hg⟩ := DataW.trod_struct hs hf
  refine ⟨cs.toList, n, by simp, by simpa using hsz.trans hC, fun j f hj => ?_⟩
  have hjl : j < fs.size := (Array.getElem?_eq_some_iff.1 hj).1
  have hsz2 := hsz.trans hC
  obtain ⟨ho, hk⟩ := Go.Deep.hone_of hone j f hj
  have h1 := hg j f hj
  rw [ho, hk] at h1
  have h2 : ((Value.agg cs).cells.toList.drop j).take 1 = [cs[j]'(by omega)] := by
    show (cs.toList.drop j).take 1 = _
    rw [List.drop_eq_getElem_cons (by simp; omega)]
    simp
  rw [h2, List.getElem?_eq_getElem (by omega)] at h1
  exact ⟨_, _, by simp [show j < cs.size by omega], h1⟩
theorem open_intF {H : Type} {enc : TypeId × Value → H} {P : Program} {W : World} {base : Nat} {spare : Nat → Bool} {held : Bool} {e : TypeId} {n : Nat} {v : Value} {y : DataW H × List MemPlace}
    (he : P.underlying e = some (.int .i64)) (h : DataW.trod enc P W base spare held n e [v] = some y) : ∃ k : Int, v = .int .i64 k ∧ Lit.wf (.int .i64 k) = true := by
  obtain ⟨k, e0, rfl, wk⟩ := DataW.trod_int he h
  simp only [List.cons.injEq, and_true] at e0
  exact ⟨k, e0, wk⟩
theorem open_sliceF {H : Type} {enc : TypeId × Value → H} {P : Program} {W : World} {base : Nat} {spare : Nat → Bool} {held : Bool} {t e : TypeId} {n : Nat} {v : Value} {y : DataW H × List MemPlace}
    (ht : P.underlying t = some (.slice e)) (h : DataW.trod enc P W base spare held n t [v] = some y) : ∃ A len cap, v = .slice A len cap ∧ DataW.Trod enc P W base spare held t (.slice A len cap) y.1 y.2 := by
  rcases Go.Deep.open_slice ht h with ⟨hcs, _⟩ | ⟨x, len, cap, m, n', D, Pl, hcs, _⟩
  · simp only [List.cons.injEq, and_true] at hcs
    subst hcs
    exact ⟨none, 0, 0, rfl, n, by simpa [Value.cells] using h⟩
  · simp only [List.cons.injEq, and_true] at hcs
    subst hcs
    exact ⟨some x, len, cap, rfl, n, by simpa [Value.cells] using h⟩
theorem open_boolsF {H : Type} {enc : TypeId × Value → H} {P : Program} {W : World} {base : Nat} {spare : Nat → Bool} {held : Bool} {t e : TypeId} {n : Nat} {v : Value} {y : DataW H × List MemPlace}
    (ht : P.underlying t = some (.slice e)) (he : P.underlying e = some .bool) (hC : P.cellsOf e = 1) (h : DataW.trod enc P W base spare held n t [v] = some y) :
    ∃ (A : Option Addr) (cap : Nat) (zs : List Bool), v = .slice A zs.length cap ∧ RdL fB W A zs ∧ zs.length ≤ cap ∧ cap ≤ maxLen := by
  obtain ⟨A, len, cap, rfl, h'⟩ := open_sliceF ht h
  obtain ⟨zs, rfl, h1, h2, h3⟩ := open_boolsAt ht he hC h'
  exact ⟨A, cap, zs, rfl, h1, h2, h3⟩
theorem open_intsF {H : Type} {enc : TypeId × Value → H} {P : Program} {W : World} {base : Nat} {spare : Nat → Bool} {held : Bool} {t e : TypeId} {n : Nat} {v : Value} {y : DataW H × List MemPlace}
    (ht : P.underlying t = some (.slice e)) (he : P.underlying e = some (.int .i64)) (hC : P.cellsOf e = 1) (h : DataW.trod enc P W base spare held n t [v] = some y) :
    ∃ (A : Option Addr) (cap : Nat) (zs : List Int), v = .slice A zs.length cap ∧ RdL fI W A zs ∧ zs.length ≤ cap ∧ cap ≤ maxLen := by
  obtain ⟨A, len, cap, rfl, h'⟩ := open_sliceF ht h
  obtain ⟨zs, rfl, h1, h2, h3⟩ := open_intsAt ht he hC h'
  exact ⟨A, cap, zs, rfl, h1, h2, h3⟩
theorem list_6 {l : List Value} (hl : l.length = 6) {u0 u1 u2 u3 u4 u5 : Value} (e0 : l[0]? = some u0) (e1 : l[1]? = some u1) (e2 : l[2]? = some u2) (e3 : l[3]? = some u3) (e4 : l[4]? = some u4) (e5 : l[5]? = some u5) : l = [u0, u1, u2, u3, u4, u5] := by
  match l, hl with
  | [c0, c1, c2, c3, c4, c5], _ =>
    simp at e0 e1 e2 e3 e4 e5
    rw [e0, e1, e2, e3, e4, e5]
theorem list_3 {l : List Value} (hl : l.length = 3) {u0 u1 u2 : Value} (e0 : l[0]? = some u0) (e1 : l[1]? = some u1) (e2 : l[2]? = some u2) : l = [u0, u1, u2] := by
  match l, hl with
  | [c0, c1, c2], _ =>
    simp at e0 e1 e2
    rw [e0, e1, e2]
end Go.Proofs.Ytcckipckgnkieaa
