/-
  The generator of WorstLoad's arguments.
-/
import Derived.Test.YtknddadgmbkpnaaSplDraw
namespace Go.Proofs.Ytknddadgmbkpnaa
open Go.RowKit
set_option linter.unusedVariables false

theorem splitF_length (total : Int) (de le : List Int) : (splitF total de le).length ≤ de.length + le.length := by
  rw [splitF]
  split
  · split
    · rw [List.length_set]; omega
    · rw [splitG, mapN_length]; omega
  · simp

theorem Bytes.below {w w' : World} {A : Option Addr} {len : Nat} (h : Bytes w A len) (hb : Below w.heap.size w w') : Bytes w' A len := by
  rcases h with h | ⟨ab, ao, bs, hA, hc⟩
  · exact .inl h
  · exact .inr ⟨ab, ao, bs, hA, fun i hi => ⟨(hb.cell (World.block_lt_of_cell? w _ (hc i hi).1)).trans (hc i hi).1, (hc i hi).2⟩⟩

def DrawW (w : World) (e : Ending) (w' : World) : Prop :=
  ∃ de gr A B c d, e = .returned (.tuple #[.slice A de.length c, .slice B gr.length d]) ∧ RdL fI w' A de ∧ RdL fI w' B gr ∧ de.length ≤ 1000 ∧ gr.length ≤ 1000 ∧ Below w.heap.size w w'

set_option maxHeartbeats 800000 in
theorem drawW_any (w : World) (A : Option Addr) (len cap : Nat) (h : Bytes w A len) (hc : len ≤ cap) :
    Calls Try.prog 15 #[.slice A len cap] w (DrawW w) := by
  go_enter Try.func15, Try.ntmps15
  go_wp2_with fail
  refine (newReader_any _ A len cap h hc).mono ?_
  rintro e w1 ⟨rb, rfl, hrb, hr1, hb1⟩
  have hlt1 := hr1.lt
  have hsz1 := hb1.size
  go_wp2_with fail
  refine (drawS_any _ A len cap (h.below hb1) hc).mono ?_
  rintro e w2 ⟨total, de, le, A1, B1, c1, d1, rfl, ha, hb, hla, hlb, hb2⟩
  replace hr1 := hr1.below hb2 hlt1
  have hsz12 := hb2.size
  have hB := hb1.trans (hb2.mono hsz1)
  have hsz2 := hB.size
  have hlt2 := hr1.lt
  clear hb1 hb2 h
  have hsl := splitF_length total de le
  have hsl2 : (splitF total de le).length ≤ 1000 := by omega
  have hS := fun w ha hb => sSplit_any total de le A1 B1 c1 d1 w ha hb (by omega) (by omega)
  generalize splitF total de le = gr at hsl2 hS hsl
  clear hsl
  go_wp2_with fail
  refine (hS _ ha.rd hb.rd).mono ?_
  rintro e w3 ⟨A3, c3, rfl, h3, b3⟩
  replace ha := ha.below b3
  replace hb := hb.below b3
  replace hr1 := hr1.below b3 hlt2
  replace hB := hB.trans (b3.mono hsz2)
  have hsz3 := hB.size
  clear b3 hS
  by_cases h0 : gr = []
  · rw [h0] at h3 ⊢
    simp only [List.length_nil] at h3 ⊢
    clear h0 hsl2
    go_wp2_with fail
    go_ret2
    exact ⟨de, le, A1, B1, c1, d1, rfl, ha.rd, hb.rd, by omega, by omega, hB⟩
  · have hq1 : (((gr.length : Nat) : Int) == 0) = false := by simpa using h0
    have hq2 : ¬ gr.length = 0 := by simpa using h0
    go_wp2_with fail
    refine (pick_any _ rb 0 3 hr1 (by omega)).mono ?_
    rintro e w4 ⟨k, rfl, hk1, hk2, hr4, hg4⟩
    have ha4 := (ha.grown hg4 (or_of_lt (fun b hb => (ha.lt b hb).1) hlt1)).rd
    have hb4 := (hb.grown hg4 (or_of_lt (fun b h' => (hb.lt b h').1) hlt1)).rd
    have h34 := (h3.grown hg4 (or_of_lt (fun b h' => (h3.lt b h').1) (by omega))).rd
    have hB4 := below_of_only hB hg4 (by omega)
    clear ha hb h3 hg4 hB hr4
    by_cases hk : k = 0
    · subst hk
      go_wp2_with fail
      go_ret2
      exact ⟨de, le, A1, B1, c1, d1, rfl, ha4, hb4, by omega, by omega, hB4⟩
    · have hk2 : (k == 0) = false := by simpa using hk
      go_wp2_with fail
      go_ret2
      exact ⟨de, gr, A1, A3, c1, c3, rfl, ha4, h34, by omega, by omega, hB4⟩
end Go.Proofs.Ytknddadgmbkpnaa
