/-
  The generators of offsets and of the statements' arguments.
-/
import Derived.Test.YtmnapeefclkldaaStDraw
namespace Go.Proofs.Ytmnapeefclkldaa
open Go.RowKit
set_option linter.unusedVariables false

theorem RdS.grown {w w' : World} {s : St} {G T : Option Addr} {rb : Nat} (h : RdS w s G T) (hg : w.grownBy w' (some rb)) (hG : ∀ b, blk G = some b → b ≠ rb) (hT : ∀ b, blk T = some b → b ≠ rb) : RdS w' s G T :=
  ⟨h.hg.grown hg (fun b o e e2 => hG b (by rw [e]; rfl) (by injection e2)), h.ht.grown hg (fun b o e e2 => hT b (by rw [e]; rfl) (by injection e2)), h.ng, h.nt⟩

set_option maxHeartbeats 3200000 in
theorem anyOffsets_any (w : World) (rb M : Nat) (s : St) (G T : Option Addr) (c d : Nat) (hr : Rdr w rb M) (hM : M ≤ 800000000) (hs : RdS w s G T) (hG : ∀ b, blk G = some b → b ≠ rb) (hT : ∀ b, blk T = some b → b ≠ rb) (hl : s.gr.length ≤ 10) :
    Calls Try.prog 51 #[.pointer (some ⟨rb, 0, none⟩), strV s G T c d] w (DrawL fI 3 w rb (M + 14) (fun xs => xs.length ≤ 20)) := by
  obtain ⟨i0, hi0, hz0, hz1, hz2⟩ := info_parts info_Int
  have hlt := hr.lt
  have bx := (Blk.new w 27 (strC s G T c d)).alloc (.cells #[] 3)
  have hA := (OwnL.of_cap (lo := w.heap.size + 1) fI (Blk.new2 w (.cells (strC s G T c d) 27) 3 #[]) (Nat.le_refl _) rfl (by simp [maxLen])).o
  replace hr := (hr.alloc (.cells (strC s G T c d) 27)).alloc (.cells #[] 3)
  have G0 := only_alloc (only_alloc (only_refl w (some rb)) (.cells (strC s G T c d) 27)) (.cells #[] 3)
  go_enter Try.func51, Try.ntmps51
  go_wp2_with fail
  go_loopw [5, 6] (fun v5 vi wr => ∃ k : Nat, k ≤ s.gr.length ∧ vi = .int .i64 k ∧ (∃ A1 c1 ys, v5 = .slice A1 ys.length c1 ∧ OwnO fI wr (w.heap.size + 1) 3 A1 c1 ys ∧ ys.length ≤ k) ∧ Blk wr w.heap.size 27 (strC s G T c d) ∧ Rdr wr rb (M + k) ∧ w.grownBy wr (some rb)) (fun _ vi _ => s.gr.length - (intOf vi).toNat)
  case atStart => exact ⟨0, Nat.zero_le _, rfl, ⟨_, _, [], rfl, hA, by simp⟩, bx, hr, G0⟩
  case round =>
    clear bx hA hr G0
    obtain ⟨k, hk, rfl, ⟨A1, c1, ys, rfl, hA, hyl⟩, bx, hr, G0⟩ := hrel
    obtain ⟨k0, k1, k2⟩ := loadS bx
    have hAl := hA.lt
    have hz := G0.size
    have hbl := bx.lt
    by_cases hlt2 : k < s.gr.length
    · go_wp2_with fail
      all_goals
        refine (pick_any _ rb _ _ hr (by omega)).mono ?_
        rintro e w4 ⟨x, rfl, -, -, hr4, hg4⟩
        replace bx := bx.grown hg4 (fun e => by injection e with e; omega)
        replace hA := hA.grown hg4 (or_of_lt (fun b hb => (hAl b hb).1) (by omega))
        replace G0 := only_trans G0 hg4
        have hAl4 := hA.lt
        have hz4 := bx.lt
        clear hg4 hr k0 k1 k2 hAl
        go_wp2_with (at_builtin; refine wpList_pushO rfl (.tmp 15) (.tmp 21) 22 rfl i0 _ 8 Try.underlying22 hi0 hz0 hz1 hz2 rfl rfl (hA.alloc (.cells #[.int .i64 x] 3)) w4.heap.size _ rfl (cell_new _ _ _) rfl (by omega) (by omega) (by simp; omega) ?_; intro A3 c3 w5 ho3 hg3 hb3)
        have bx5 := (bx.alloc (.cells #[.int .i64 x] 3)).grown hg3 (fun e => by have := (hAl4 _ e.symm).1; omega)
        have hr5 := (hr4.alloc (.cells #[.int .i64 x] 3)).grown hg3 (fun b hb => by have := hAl4 b hb; omega)
        have G5 := only_own (only_alloc G0 (.cells #[.int .i64 x] 3)) hg3 (fun b hb => by have := hAl4 b hb; omega)
        go_roundw
        case rel => exact ⟨k + 1, by omega, by go_num, ⟨A3, c3, ys ++ [x], by simp, ho3, by simp; omega⟩, bx5, hr5, G5⟩
        case measure => simp [intOf]; omega
    · go_wp2_with fail
      refine (pick_any _ rb _ _ hr (by omega)).mono ?_
      rintro e w4 ⟨x, rfl, -, -, hr4, hg4⟩
      replace bx := bx.grown hg4 (fun e => by injection e with e; omega)
      replace hA := hA.grown hg4 (or_of_lt (fun b hb => (hAl b hb).1) (by omega))
      replace G0 := only_trans G0 hg4
      replace hs := hs.grown G0 hG hT
      clear hg4 hr k0 k1 k2 hAl
      obtain ⟨k0, k1, k2⟩ := loadS bx
      have hz4 := bx.lt
      have hzg := G0.size
      by_cases hx0 : x = 0
      · subst hx0
        go_wp2_with fail
        cases hv : validT s with
        | true =>
          have hgT := validT_iff.mp hv
          have hlw : (waveL s).length ≤ 10 := by rw [waveL, mapN_length]; exact hl
          refine (sValidT_b true s G T c d _ hv hs).mono ?_
          rintro e w5 ⟨rfl, v5⟩
          replace bx := bx.below v5 bx.lt
          replace hs := hs.below v5
          replace hr4 := hr4.below v5 (by omega)
          replace G0 := only_below G0 v5
          clear v5 k0 k1 k2 hv
          obtain ⟨k0, k1, k2⟩ := loadS bx
          have hz5 := bx.lt
          go_wp2_with fail
          refine (sWav_any s G T c d _ hs hgT).mono ?_
          rintro e w6 ⟨A6, c6, rfl, y6, v6⟩
          have hr6 := hr4.below v6 (by omega)
          have G6 := only_below G0 v6
          have hz6 := G6.size
          generalize waveL s = us at *
          clear v6 k0 k1 k2
          go_wp2_with fail
          refine (spoil_any _ rb _ us A6 c6 30 hr6 (by omega) y6.rd (by omega)).mono ?_
          rintro e w7 ⟨zs, A7, c7, rfl, h7, hl7, hr7, hg7⟩
          have G7 := only_trans G6 hg7
          go_wp2_with fail
          go_ret
          exact ⟨zs, A7, c7, rfl, h7.mono (by omega), by omega, hr7.mono (by omega), G7⟩
        | false =>
          refine (sValidT_b false s G T c d _ hv hs).mono ?_
          rintro e w5 ⟨rfl, v5⟩
          replace hA := hA.below v5
          replace hr4 := hr4.below v5 (by omega)
          replace G0 := only_below G0 v5
          have hz6 := G0.size
          clear v5 k0 k1 k2 hv
          go_wp2_with fail
          refine (spoil_any _ rb _ ys A1 c1 30 hr4 (by omega) hA.rd (by omega)).mono ?_
          rintro e w7 ⟨zs, A7, c7, rfl, h7, hl7, hr7, hg7⟩
          have G7 := only_trans G0 hg7
          go_wp2_with fail
          go_ret
          exact ⟨zs, A7, c7, rfl, h7.mono (by omega), by omega, hr7.mono (by omega), G7⟩
      · have q0 : (x == 0) = false := by simpa using hx0
        go_wp2_with fail
        clear k0 k1 k2
        refine (spoil_any _ rb _ ys A1 c1 30 hr4 (by omega) hA.rd (by omega)).mono ?_
        rintro e w7 ⟨zs, A7, c7, rfl, h7, hl7, hr7, hg7⟩
        have G7 := only_trans G0 hg7
        go_wp2_with fail
        go_ret
        exact ⟨zs, A7, c7, rfl, h7.mono (by omega), by omega, hr7.mono (by omega), G7⟩
end Go.Proofs.Ytmnapeefclkldaa
