/-
  The generators of texts of lamps and of greens.
-/
import Derived.Test.YtcgcjjpkcaljgaaLpLamps
import Derived.Test.YtcgcjjpkcaljgaaDrList
namespace Go.Proofs.Ytcgcjjpkcaljgaa
open Go.RowKit
set_option linter.unusedVariables false

/-- A slice of bytes in block g, whatever its mark, none of its bytes frozen. -/
def SB (w : World) (g : Nat) (l : List UInt8) : Prop :=
  ∃ cs T fr, w.heap[g]? = some (.cells cs T fr) ∧ (∀ j, j < l.length → cs[j]? = some (fU (gu l j))) ∧ ∀ j, j < l.length → (decide (fr.1 ≤ j) && decide (j < fr.2)) = false
theorem SB.lt {w : World} {g : Nat} {l : List UInt8} (h : SB w g l) : g < w.heap.size := by
  obtain ⟨cs, T, fr, hh, _⟩ := h
  rcases Nat.lt_or_ge g w.heap.size with h | h
  · exact h
  · rw [Array.getElem?_eq_none h] at hh; cases hh
theorem SB.cell {w : World} {g : Nat} {l : List UInt8} (h : SB w g l) {j : Nat} (hj : j < l.length) : w.cell? ⟨g, j, none⟩ = some (fU (gu l j)) := by
  obtain ⟨cs, T, fr, hh, h1, _⟩ := h
  simp [World.cell?, hh, h1 j hj]
theorem SB.frozen {w : World} {g : Nat} {l : List UInt8} (h : SB w g l) {j : Nat} (hj : j < l.length) : w.frozen? ⟨g, j, none⟩ = false := by
  obtain ⟨cs, T, fr, hh, _, h2⟩ := h
  have := h2 j hj
  simpa [World.frozen?, hh] using this
theorem SB.rd {w : World} {g : Nat} {l : List UInt8} (h : SB w g l) : RdL fU w (some ⟨g, 0, none⟩) l := by
  refine .inr ⟨g, 0, rfl, fun i x hx => ?_⟩
  have hi : i < l.length := (List.getElem?_eq_some_iff.1 hx).1
  rw [Nat.zero_add, h.cell hi]
  rw [List.getElem?_eq_getElem hi] at hx
  injection hx with hx
  rw [← hx, gu_at hi]
theorem SB.block {w w' : World} {g : Nat} {l : List UInt8} (h : SB w g l) (hb : w'.heap[g]? = w.heap[g]?) : SB w' g l := by
  obtain ⟨cs, T, fr, hh, h1, h2⟩ := h
  exact ⟨cs, T, fr, hb.trans hh, h1, h2⟩
theorem gu_set {l : List UInt8} {k : Nat} {v : UInt8} (hk : k < l.length) (i : Nat) : gu (l.set k v) i = if i = k then v else gu l i := by
  by_cases e : i = k
  · subst e; simp [gu, hk]
  · simp [gu, e, Ne.symm e]
theorem SB.set {w : World} {g : Nat} {l : List UInt8} (h : SB w g l) {k : Nat} (hk : k < l.length) (x : UInt8) : SB (w.setCell ⟨g, k, none⟩ (fU x)) g (l.set k x) := by
  obtain ⟨cs, T, fr, hh, h1, h2⟩ := h
  refine ⟨cs.setIfInBounds k (fU x), T, fr, ?_, fun j hj => ?_, fun j hj => h2 j (by simpa using hj)⟩
  · simp [World.setCell, Array.getElem?_modify, hh]
  · rw [List.length_set] at hj
    rw [Array.getElem?_setIfInBounds, gu_set hk]
    by_cases e : k = j
    · subst e
      have hc : k < cs.size := (Array.getElem?_eq_some_iff.1 (h1 k hk)).1
      simp [hc]
    · rw [if_neg e, if_neg (fun h => e h.symm)]
      exact h1 j hj
/-- []byte(s). -/
theorem toBytes_any (l : List UInt8) (w : World) : ∃ cap W, (convert 9 22 (strL l)).run Try.prog w = .ok (.slice (some ⟨w.heap.size, 0, none⟩) l.length cap) W ∧ SB W w.heap.size l ∧ Below w.heap.size w W := by
  have h := run_bytes_of_string w 9 22 5 ⟨l.toArray⟩ Try.underlying9 Try.underlying22 Try.underlying5
  generalize grownCap w (⟨l.toArray⟩ : ByteArray).size 0 5 = cap at h
  have hs : (⟨l.toArray⟩ : ByteArray).size = l.length := rfl
  have hrs : l.length ≤ (bytesRow ⟨l.toArray⟩ cap).size := by simp [bytesRow]
  rw [hs] at h
  refine ⟨cap, _, h, ⟨bytesRow ⟨l.toArray⟩ cap, 5, _, heap_alloc_new _ _, fun j hj => ?_, fun j hj => ?_⟩, (Below.refl _ _).drew.alloc (Nat.le_refl _) _⟩
  · have := bytesRow_at ⟨l.toArray⟩ cap j (by simpa using hj)
    rw [this]
    simp only [fU]
    rw [← gu_at hj]
    rfl
  · simp only [Bool.and_eq_false_iff, decide_eq_false_iff_not]
    left
    omega

theorem pick5 {x : Int} (h0 : 0 ≤ x) (h1 : x < 5) : x = 0 ∨ x = 1 ∨ x = 2 ∨ x = 3 ∨ x = 4 := by omega
set_option maxHeartbeats 1600000 in
theorem drawFB_any (w : World) (A : Option Addr) (len cap : Nat) (h : Bytes w A len) (hc : len ≤ cap) :
    Calls Try.prog 10 #[.slice A len cap] w fun e w' => ∃ l, e = .returned (strL l) ∧ l.length = 20 ∧ Below w.heap.size w w' := by
  go_enter Try.func10, Try.ntmps10
  go_wp2_with fail
  refine (newReader_any _ A len cap h hc).mono ?_
  rintro e w1 ⟨rb, rfl, hrb, hr1, hB⟩
  clear h
  go_wp2_with fail
  refine (randomBools_any _ rb 0 20 hr1 (by omega) (by omega)).mono ?_
  rintro e w2 ⟨gs, A2, c2, rfl, h2, hg2, hr2, hG2⟩
  have hB2 := below_of_only hB hG2 hrb
  have hgl := Lib.hid (show gs.length = 20 from hg2)
  have hgl2 : gs.length ≤ 20 := by rw [hgl.out]; omega
  clear hB hG2 hr1 hg2
  go_wp2_with fail
  refine (sLamps_any gs A2 c2 _ h2.rd (by omega)).mono ?_
  rintro e w3 ⟨rfl, v3⟩
  have hr3 := hr2.below v3 hr2.lt
  have hB3 := hB2.trans (v3.mono hB2.size)
  have hl0 : (lampF gs).length = 20 := by rw [lampF_eq (by omega), lampN_length, hgl.out]
  generalize lampF gs = l0 at *
  obtain ⟨cap3, w4, hcv, hS, v4⟩ := toBytes_any l0 w3
  have hr4 := hr3.below v4 hr3.lt
  have hB4 := hB3.trans (v4.mono hB3.size)
  have hgb : rb < w3.heap.size := hr3.lt
  have hgw : w.heap.size ≤ w3.heap.size := hB3.size
  have hl1 := Lib.hid hl0
  rw [hl0] at hcv
  clear v3 v4 hB2 hB3 hr2 hr3 h2 hgl hl0
  generalize w3.heap.size = g at *
  go_wp2_with fail
  refine (pick_any _ rb _ 3 hr4 (by omega)).mono ?_
  rintro e w5 ⟨n, rfl, hn0, hn1, hr5, hG5⟩
  have hn3 : n < 3 := hn1 (by omega)
  have hS5 := hS.block (hG5.block g hS.lt (by simp; omega))
  have hB5 := below_of_only hB4 hG5 hrb
  clear hcv hS hr4 hG5 hB4 hn1
  go_wp2_with fail
  go_loopw [5] (fun v5 wr => ∃ m : Int, v5 = .int .i64 m ∧ 0 ≤ m ∧ m ≤ n ∧ (∃ l, SB wr g l ∧ Hid (l.length = 20)) ∧ Rdr wr rb (100 + 2 * (3 - m.toNat)) ∧ Below w.heap.size w wr) (fun v5 _ => (intOf v5).toNat)
  case atStart => exact ⟨n, rfl, hn0, Int.le_refl _, ⟨l0, hS5, hl1⟩, hr5.mono (by omega), hB5⟩
  case round =>
    clear hS5 hr5 hB5 hl1
    obtain ⟨m, rfl, hm0, hmn, ⟨l, hS, hl⟩, hr, hB⟩ := hrel
    by_cases hm : 0 < m
    · go_wp2_with fail
      refine (pick_any _ rb _ 20 hr (by omega)).mono ?_
      rintro e w6 ⟨x, rfl, hx0, hx1, hr6, hG6⟩
      have hx20 : x < 20 := hx1 (by omega)
      have hS6 := hS.block (hG6.block g hS.lt (by simp; omega))
      have hB6 := below_of_only hB hG6 hrb
      clear hS hr hG6 hB hx1
      go_wp2_with fail
      refine (pick_any _ rb _ 5 hr6 (by omega)).mono ?_
      rintro e w7 ⟨y, rfl, hy0, hy1, hr7, hG7⟩
      have hy5 : y < 5 := hy1 (by omega)
      have hS7 := hS6.block (hG7.block g hS6.lt (by simp; omega))
      have hB7 := below_of_only hB6 hG7 hrb
      clear hS6 hr6 hG7 hB6 hy1
      obtain ⟨i, rfl⟩ := Int.eq_ofNat_of_zero_le hx0
      have hil : i < l.length := by rw [hl.out]; omega
      have hck := hS7.cell hil
      have hfk := hS7.frozen hil
      have Hset := fun x => hS7.set hil x
      have Hr := fun v => hr7.setCell (p := ⟨g, i, none⟩) hgb v
      have HB := fun v => hB7.setCell (p := ⟨g, i, none⟩) hgw v
      have hl2 := fun x => Lib.hid (show (l.set i x).length = 20 by rw [List.length_set]; exact hl.out)
      simp only [fU] at hck
      generalize (((gu l i).toNat : Nat) : Int) = z at hck
      have HH : ∀ x : UInt8, ∃ m' : Int, .int .i64 (m - 1) = Value.int .i64 m' ∧ 0 ≤ m' ∧ m' ≤ n ∧ (∃ l, SB (w7.setCell ⟨g, i, none⟩ (fU x)) g l ∧ Hid (l.length = 20)) ∧ Rdr (w7.setCell ⟨g, i, none⟩ (fU x)) rb (100 + 2 * (3 - m'.toNat)) ∧ Below w.heap.size w (w7.setCell ⟨g, i, none⟩ (fU x)) :=
        fun x => ⟨m - 1, rfl, by omega, by omega, ⟨_, Hset x, hl2 x⟩, (Hr _).mono (by omega), HB _⟩
      have HHH := Lib.hid HH
      clear Hset Hr HB hl2 hS7 hr7 hB7 hl HH
      rcases pick5 hy0 hy5 with rfl | rfl | rfl | rfl | rfl
      · go_wp2_with fail
        go_roundw
        case rel => exact HHH.out 82
        case measure => simp [intOf]; omega
      · go_wp2_with fail
        go_roundw
        case rel => exact HHH.out 65
        case measure => simp [intOf]; omega
      · go_wp2_with fail
        go_roundw
        case rel => exact HHH.out 71
        case measure => simp [intOf]; omega
      · go_wp2_with fail
        go_roundw
        case rel => exact HHH.out 89
        case measure => simp [intOf]; omega
      · go_wp2_with fail
        go_roundw
        case rel => exact HHH.out 120
        case measure => simp [intOf]; omega
    · have hcv := conv_rd l (some ⟨g, 0, none⟩) cap3 wr hS.rd
      rw [hl.out] at hcv
      have hl3 := hl
      clear hS hr
      go_wp2_with fail
      go_ret
      exact ⟨l, rfl, hl3.out, hB⟩
end Go.Proofs.Ytcgcjjpkcaljgaa
