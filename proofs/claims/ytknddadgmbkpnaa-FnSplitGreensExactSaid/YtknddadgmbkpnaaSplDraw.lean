/-
  The generator of SplitGreens' arguments.
-/
import Derived.Test.YtknddadgmbkpnaaSplSplit
namespace Go.Proofs.Ytknddadgmbkpnaa
open Go.RowKit
set_option linter.unusedVariables false

theorem or_of_lt {A : Option Addr} {rb n : Nat} (h : ∀ b, blk A = some b → n ≤ b) (hr : rb < n) : blk A = none ∨ blk A ≠ some rb := by
  cases hA : blk A with
  | none => exact .inl rfl
  | some b => right; have := h b hA; simp; omega

def DrawS (w : World) (e : Ending) (w' : World) : Prop :=
  ∃ total de le A B c d, e = .returned (.tuple #[.int .i64 total, .slice A de.length c, .slice B le.length d]) ∧ OwnO fI w' w.heap.size 3 A c de ∧ OwnO fI w' w.heap.size 3 B d le ∧ de.length ≤ 100 ∧ le.length ≤ 100 ∧ Below w.heap.size w w'

set_option maxHeartbeats 600000 in
theorem drawS_any (w : World) (A : Option Addr) (len cap : Nat) (h : Bytes w A len) (hc : len ≤ cap) :
    Calls Try.prog 20 #[.slice A len cap] w (DrawS w) := by
  obtain ⟨i0, hi0, hz0, hz1, hz2⟩ := info_parts info_Int
  go_enter Try.func20, Try.ntmps20
  go_wp2_with fail
  refine (newReader_any _ A len cap h hc).mono ?_
  rintro e w1 ⟨rb, rfl, hrb, hr1, hb1⟩
  have hlt1 := hr1.lt
  have hsz1 := hb1.size
  clear h
  have hA := (OwnL.of_cap (lo := w1.heap.size) fI (Blk.new w1 3 #[]) (Nat.le_refl _) rfl (by simp [maxLen])).o.alloc (.cells #[] 3)
  have hB := (OwnL.of_cap (lo := w1.heap.size) fI (Blk.new (w1.alloc (.cells #[] 3)) 3 #[]) (by simp) rfl (by simp [maxLen])).o
  rw [show (w1.alloc (.cells #[] 3)).heap.size = w1.heap.size + 1 by simp] at hB
  have hAB : Sep (some (⟨w1.heap.size, 0, none⟩ : Addr)) (some (⟨w1.heap.size + 1, 0, none⟩ : Addr)) := fun b h1 h2 => by simp at h1 h2; omega
  have hbk := Blk.new ((w1.alloc (.cells #[] 3)).alloc (.cells #[] 3)) 3 ([3, 2, 4, 1, 5, 0, 6].map (Value.int .i64)).toArray
  rw [show ((w1.alloc (.cells #[] 3)).alloc (.cells #[] 3)).heap.size = w1.heap.size + 1 + 1 by simp] at hbk
  go_wp2_with fail
  refine (one_any _ rb 0 (w1.heap.size + 1 + 1) 7 _ [3, 2, 4, 1, 5, 0, 6] (((hr1.alloc _).alloc _).alloc _) (by omega) hbk (by omega) rfl (by omega) (by omega)).mono ?_
  rintro e w2 ⟨n, rfl, hn, hr2, hg2⟩
  replace hn : 0 ≤ n ∧ n ≤ 6 := by simp at hn; omega
  replace hA := (hA.alloc (.cells ([3, 2, 4, 1, 5, 0, 6].map (Value.int .i64)).toArray 3)).grown hg2 (or_of_lt (fun b hb => (hA.lt b hb).1) hlt1)
  replace hB := (hB.alloc (.cells ([3, 2, 4, 1, 5, 0, 6].map (Value.int .i64)).toArray 3)).grown hg2 (or_of_lt (fun b hb => (hB.lt b hb).1) hlt1)
  have G := only_trans (only_alloc (only_alloc (only_alloc (only_refl w1 (some rb)) (.cells #[] 3)) (.cells #[] 3)) (.cells ([3, 2, 4, 1, 5, 0, 6].map (Value.int .i64)).toArray 3)) hg2
  clear hg2 hr1
  obtain ⟨n, rfl⟩ := Int.eq_ofNat_of_zero_le hn.1
  go_wp2_with fail
  go_loopw [6, 7, 8] (fun v6 v7 i wr => ∃ m : Nat, i = .int .i64 m ∧ m ≤ 6 ∧ (∃ xs A1 c1 ys B1 d1, v6 = .slice A1 xs.length c1 ∧ v7 = .slice B1 ys.length d1 ∧ OwnO fI wr w1.heap.size 3 A1 c1 xs ∧ OwnO fI wr w1.heap.size 3 B1 d1 ys ∧ Sep A1 B1 ∧ xs.length + m ≤ 6 ∧ ys.length + m ≤ 6) ∧ Rdr wr rb (1 + 2 * (6 - m)) ∧ w1.grownBy wr (some rb)) (fun _ _ i _ => (intOf i).toNat)
  case atStart => exact ⟨n, rfl, by omega, ⟨[], _, _, [], _, _, rfl, rfl, hA, hB, hAB, by simp; omega, by simp; omega⟩, hr2.mono (by omega), G⟩
  case round =>
    clear hA hB hAB hr2 G
    obtain ⟨m, rfl, hm, ⟨xs, A1, c1, ys, B1, d1, rfl, rfl, hA, hB, hAB, hxl, hyl⟩, hr, G⟩ := hrel
    by_cases hm0 : 0 < m
    · have hAl := hA.lt
      have hBl := hB.lt
      go_wp2_with fail
      refine (one_any _ rb _ wr.heap.size 7 _ [0, 1, 3, 10, 25, 100, 999] (hr.alloc _) (by omega) (Blk.new _ _ _) (by have := hr.lt; omega) rfl (by omega) (by omega)).mono ?_
      rintro e w4 ⟨x, rfl, hx, hr4, hg4⟩
      have hA4 := (hA.alloc (.cells ([0, 1, 3, 10, 25, 100, 999].map (Value.int .i64)).toArray 3)).grown hg4 (or_of_lt (fun b hb => (hAl b hb).1) hlt1)
      have hB4 := (hB.alloc (.cells ([0, 1, 3, 10, 25, 100, 999].map (Value.int .i64)).toArray 3)).grown hg4 (or_of_lt (fun b hb => (hBl b hb).1) hlt1)
      have G4 := only_trans (only_alloc G (.cells ([0, 1, 3, 10, 25, 100, 999].map (Value.int .i64)).toArray 3)) hg4
      have hAl4 := hA4.lt
      have hBl4 := hB4.lt
      have hz4 := G4.size
      clear hg4 hA hB G hr hx hAl hBl
      go_wp2_with (at_builtin; refine wpList_pushO rfl (.tmp 20) (.tmp 24) 22 rfl i0 _ 8 Try.underlying22 hi0 hz0 hz1 hz2 rfl rfl (hA4.alloc _) w4.heap.size _ rfl (cell_new _ _ _) rfl (by omega) (by omega) (by simp; omega) ?_; intro A3 c3 w5 ho3 hg3 hb3)
      have hr5 := (hr4.alloc _).grown hg3 (fun b hb => by have := hAl4 b hb; omega)
      have G5 := only_own (only_alloc G4 _) hg3 (fun b hb => by have := hAl4 b hb; omega)
      have hB5 := (hB4.alloc _).grown hg3 hAB.or
      have hz5 := G5.size
      have hAB5 := hAB.push (n := w4.heap.size) (fun b hb => (hBl4 b hb).2) (hb3.imp id fun h b hb => by have := h b hb; simp at this; omega)
      have hAl5 := ho3.lt
      have hBl5 := hB5.lt
      clear hA4 hB4 hAB hr4 G4 hg3 hb3
      refine (one_any _ rb _ w5.heap.size 4 _ [5, 0, 7, 10] (hr5.alloc _) (by omega) (Blk.new _ _ _) (by have := hr5.lt; omega) rfl (by omega) (by omega)).mono ?_
      rintro e w6 ⟨y, rfl, hy, hr6, hg6⟩
      have hA6 := (ho3.alloc (.cells ([5, 0, 7, 10].map (Value.int .i64)).toArray 3)).grown hg6 (or_of_lt (fun b hb => (hAl5 b hb).1) hlt1)
      have hB6 := (hB5.alloc (.cells ([5, 0, 7, 10].map (Value.int .i64)).toArray 3)).grown hg6 (or_of_lt (fun b hb => (hBl5 b hb).1) hlt1)
      have G6 := only_trans (only_alloc G5 (.cells ([5, 0, 7, 10].map (Value.int .i64)).toArray 3)) hg6
      have hAl6 := hA6.lt
      have hBl6 := hB6.lt
      have hz6 := G6.size
      clear hg6 ho3 hB5 G5 hr5 hy hAl5 hBl5
      go_wp2_with (at_builtin; refine wpList_pushO rfl (.tmp 26) (.tmp 30) 22 rfl i0 _ 8 Try.underlying22 hi0 hz0 hz1 hz2 rfl rfl (hB6.alloc _) w6.heap.size _ rfl (cell_new _ _ _) rfl (by omega) (by omega) (by simp; omega) ?_; intro B7 d7 w7 ho7 hg7 hb7)
      have hr7 := (hr6.alloc _).grown hg7 (fun b hb => by have := hBl6 b hb; omega)
      have G7 := only_own (only_alloc G6 _) hg7 (fun b hb => by have := hBl6 b hb; omega)
      have hA7 := (hA6.alloc _).grown hg7 hAB5.symm.or
      have hAB7 := (hAB5.symm.push (n := w6.heap.size) (fun b hb => (hAl6 b hb).2) (hb7.imp id fun h b hb => by have := h b hb; simp at this; omega)).symm
      go_roundw
      case rel => exact ⟨m - 1, by congr 1; omega, by omega, ⟨_, A3, c3, _, B7, d7, by simp, by simp, hA7, ho7, hAB7, by simp; omega, by simp; omega⟩, hr7.mono (by omega), G7⟩
      case measure => simp [intOf]; omega
    · obtain rfl : m = 0 := by omega
      have hAl := hA.lt
      have hBl := hB.lt
      have hz := G.size
      go_wp2_with fail
      refine (one_any _ rb _ wr.heap.size 7 _ [60, 90, 40, 20, 180, 181, 0] (hr.alloc _) (by omega) (Blk.new _ _ _) (by have := hr.lt; omega) rfl (by omega) (by omega)).mono ?_
      rintro e w4 ⟨x, rfl, hx, hr4, hg4⟩
      have hA4 := (hA.alloc (.cells ([60, 90, 40, 20, 180, 181, 0].map (Value.int .i64)).toArray 3)).grown hg4 (or_of_lt (fun b hb => (hAl b hb).1) hlt1)
      have hB4 := (hB.alloc (.cells ([60, 90, 40, 20, 180, 181, 0].map (Value.int .i64)).toArray 3)).grown hg4 (or_of_lt (fun b hb => (hBl b hb).1) hlt1)
      have G4 := only_trans (only_alloc G (.cells ([60, 90, 40, 20, 180, 181, 0].map (Value.int .i64)).toArray 3)) hg4
      have hz4 := G4.size
      clear hg4 hA hB G hr hx
      go_wp2_with fail
      refine (spoil_any _ rb _ xs A1 c1 1000 hr4 (by omega) hA4.rd (by omega)).mono ?_
      rintro e w5 ⟨zs, A5, c5, rfl, h5, hl5, hr5, hg5⟩
      have hB5 := hB4.grown hg5 (or_of_lt (fun b hb => (hB4.lt b hb).1) hlt1)
      have G5 := only_trans G4 hg5
      have hz5 := G5.size
      clear hg5 hr4
      go_wp2_with fail
      refine (spoil_any _ rb _ ys B1 d1 181 hr5 (by omega) hB5.rd (by omega)).mono ?_
      rintro e w6 ⟨us, A6, c6, rfl, h6, hl6, hr6, hg6⟩
      have h56 := h5.grown hg6 (or_of_lt (n := w4.heap.size) (fun b hb => (h5.lt b hb).1) (by omega))
      have G6 := only_trans G5 hg6
      clear hg6
      go_wp2_with fail
      refine bodyPost_ret (v := .tuple #[.int .i64 x, .slice A5 zs.length c5, .slice A6 us.length c6]) (by simp [results, Try.results20, go_sem]) rfl ?_
      exact ⟨x, zs, us, A5, A6, c5, c6, rfl, h56.mono (by omega), h6.mono (by omega), by omega, by omega, below_of_only hb1 G6 (by omega)⟩
end Go.Proofs.Ytknddadgmbkpnaa
