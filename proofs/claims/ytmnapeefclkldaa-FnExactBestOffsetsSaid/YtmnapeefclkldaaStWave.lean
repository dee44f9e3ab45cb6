/-
  Streets: the offsets of a wave of green.
-/
import Derived.Test.YtmnapeefclkldaaStEx
namespace Go.Proofs.Ytmnapeefclkldaa
open Go.RowKit
set_option linter.unusedVariables false

theorem waveF_len (s : St) : (waveF s).length ≤ 150 := by
  cases hv : validT s with
  | false => simp [waveF, hv]
  | true =>
    have := (validT_iff.mp hv).g2
    simp [waveF, hv, waveL, mapN_length]
    omega
/-- The offsets as far as crossing k. -/
def wavT (s : St) (k : Nat) : List Int := mapN (k + 1) fun i => goT s i % s.cy
theorem wavT_len (s : St) (k : Nat) : (wavT s k).length = k + 1 := mapN_length _ _
theorem wavT_zero (s : St) : wavT s 0 = [0] := by simp [wavT, mapN, goT_zero]
theorem wavT_succ (s : St) (k : Nat) : wavT s (k + 1) = wavT s k ++ [goT s (k + 1) % s.cy] := mapN_succ _ _
def wavK (s : St) (k : Nat) : List Int := mapN s.gr.length fun i => if i ≤ k then goT s i % s.cy else 0
theorem wavK_len (s : St) (k : Nat) : (wavK s k).length = s.gr.length := mapN_length _ _
theorem wavK_zero (s : St) : wavK s 0 = List.replicate s.gr.length 0 := by
  apply List.ext_getElem
  · rw [wavK_len, List.length_replicate]
  · intro i h1 h2
    simp only [wavK]
    rw [mapN_get, List.getElem_replicate]
    by_cases h : i ≤ 0
    · rw [if_pos h, show i = 0 by omega, goT_zero]; simp
    · rw [if_neg h]
theorem wavK_set (s : St) (k : Nat) : (wavK s k).set (k + 1) (goT s (k + 1) % s.cy) = wavK s (k + 1) := by
  rw [wavK, mapN_set]
  refine mapN_congr fun i hi => ?_
  by_cases h : i = k + 1
  · rw [if_pos h, if_pos (by omega), h]
  · rw [if_neg h]
    by_cases h2 : i ≤ k
    · rw [if_pos h2, if_pos (by omega)]
    · rw [if_neg h2, if_neg (by omega)]
theorem wavK_end {s : St} (h : GoodT s) : wavK s s.tr.length = waveL s :=
  mapN_congr fun i hi => by rw [if_pos (by have := h.tl; omega)]

set_option maxHeartbeats 1600000 in
theorem sWav_any (s : St) (G T : Option Addr) (c d : Nat) (w : World) (hs : RdS w s G T) (hg : GoodT s) :
    Calls Try.prog 46 #[strV s G T c d] w (NewS fI 3 w (waveL s)) := by
  obtain ⟨i0, hi0, hz0, hz1, hz2⟩ := info_parts info_Int
  have bx := (Blk.new w 27 (strC s G T c d)).alloc (.cells #[.int .i64 0] 3)
  have bO := Blk.new2 w (.cells (strC s G T c d) 27) 3 ([0].map (Value.int .i64)).toArray
  have h0 := (OwnL.of_blk (xs := [0]) (f := fI) (lo := w.heap.size) bO (by omega) (by simp [maxLen])).o
  have hB := ((Below.refl w.heap.size w).alloc (Nat.le_refl _) (.cells (strC s G T c d) 27)).alloc (by simp) (.cells #[.int .i64 0] 3)
  have H0 := Lib.hid (wavT_zero s).symm
  have hg4 := hg.g2
  have Htl := Lib.hid hg.tl
  have Hg := Lib.hid hg
  clear hg
  have hc1 := Hg.out.c1
  have hc2 := Hg.out.c2
  have hnt : s.tr.length ≤ 3 := by have := Htl.out; omega
  go_enter Try.func46, Try.ntmps46
  go_wp2_with fail
  go_loopw [3, 4, 5] (fun v3 v4 vi wr => ∃ k : Nat, k ≤ s.tr.length ∧ vi = .int .i64 k ∧ v4 = .int .i64 (goT s k) ∧ (∃ A1 c1 ys, v3 = .slice A1 ys.length c1 ∧ OwnO fI wr w.heap.size 3 A1 c1 ys ∧ Hid (ys = wavT s k) ∧ (∀ b, blk A1 = some b → b ≠ w.heap.size)) ∧ Blk wr w.heap.size 27 (strC s G T c d) ∧ Below w.heap.size w wr) (fun _ _ vi _ => s.tr.length - (intOf vi).toNat)
  case atStart => exact ⟨0, Nat.zero_le _, rfl, by rw [goT_zero], ⟨_, _, [0], rfl, h0, H0, fun b h => by simp at h; omega⟩, bx, hB⟩
  case round =>
    clear bx bO h0 hB H0
    obtain ⟨k, hk, rfl, rfl, ⟨A1, c1, ys, rfl, ho, hys, hne⟩, bx, hb⟩ := hrel
    obtain ⟨k0, k1, k2⟩ := loadS bx
    have hbd := goT_bd Hg.out k hk
    have hys2 : ys.length ≤ 4 := by rw [hys.out, wavT_len]; omega
    by_cases hlt : k < s.tr.length
    case neg =>
      obtain rfl : k = s.tr.length := by omega
      go_wp2_with fail
      go_ret
      have e : ys = waveL s := by rw [hys.out, wavT, Htl.out]; rfl
      subst e
      exact ⟨A1, c1, rfl, ho, hb⟩
    obtain ⟨b2, o2, rfl, hct⟩ := (hs.ht.below hb).at hlt
    rw [ga_at hlt] at hct
    simp only [fI] at hct
    have htb := Hg.out.tb k hlt
    have hgs := goT_succ s k hlt
    have hst := wavT_succ s k
    rw [hgs] at hst
    have Hgs := Lib.hid hgs
    have Hst := Lib.hid hst
    clear hgs hst
    have hlo := ho.lt
    have hz := hb.size
    generalize ga s.tr k = y at *
    obtain ⟨u, hu⟩ : ∃ u, u = goT s k := ⟨_, rfl⟩
    rw [← hu] at Hst Hgs hbd
    rw [← hu]
    have Hu := Lib.hid hu
    clear hu
    have hub : 0 ≤ u + y := by omega
    have hub2 : u + y ≤ 300 := by omega
    go_wp2_with (at_builtin; go_must (refine wpList_pushO rfl (.tmp 21) (.tmp 26) 22 rfl i0 _ 8 Try.underlying22 hi0 hz0 hz1 hz2 rfl rfl (ho.alloc (.cells #[.int .i64 ((u + y) % s.cy)] 3)) wr.heap.size ((u + y) % s.cy) rfl (cell_new _ _ _) rfl (by omega) (by omega) (by simp; omega) ?_); intro A3 c3 w3 ho3 hg3 hb3)
    have bx3 := (bx.alloc (.cells #[.int .i64 ((u + y) % s.cy)] 3)).grown hg3 (fun e => hne _ e.symm rfl)
    have hb4 := below_push hz hb hlo hg3
    have hne3 : ∀ b, blk A3 = some b → b ≠ w.heap.size := fun b h => by
      rcases hb3 with h3 | h3
      · exact hne b (by rw [← h3]; exact h)
      · have := h3 b h; have := bx.lt; simp at *; omega
    go_roundw
    case rel => exact ⟨k + 1, by omega, by go_num, by rw [Hgs.out], ⟨A3, c3, ys ++ [(u + y) % s.cy], by simp, ho3, Lib.hid (by rw [Hst.out, hys.out]), hne3⟩, bx3, hb4⟩
    case measure => simp [intOf]; omega

theorem sValidT_b (b : Bool) (s : St) (G T : Option Addr) (c d : Nat) (w : World) (hb : validT s = b) (hs : RdS w s G T) :
    Calls Try.prog 45 #[strV s G T c d] w fun e w' => e = .returned (.bool b) ∧ Below w.heap.size w w' := by
  rw [← hb]; exact sValidT_any s G T c d w hs
set_option maxHeartbeats 1600000 in
theorem sWave_any (s : St) (G T : Option Addr) (c d : Nat) (w : World) (hs : RdS w s G T) :
    Calls Try.prog 22 #[strV s G T c d] w (NewS fI 3 w (waveF s)) := by
  have bx := Blk.new w 27 (strC s G T c d)
  replace hs := hs.alloc (.cells (strC s G T c d) 27)
  have hB := (Below.refl w.heap.size w).alloc (Nat.le_refl _) (.cells (strC s G T c d) 27)
  go_enter Try.func22, Try.ntmps22
  cases hv : validT s with
  | false =>
    have H := Lib.hid (show waveF s = [] by simp [waveF, hv])
    go_wp2_with fail
    refine (sValidT_b false s G T c d _ hv hs).mono ?_
    rintro e w1 ⟨rfl, v0⟩
    replace hB := hB.trans (v0.mono (by simp))
    clear v0 hv
    go_wp2_with fail
    go_ret
    rw [H.out]
    exact ⟨none, 0, rfl, OwnO.nil _ _ _ _, hB⟩
  | true =>
    have hg := validT_iff.mp hv
    have H := Lib.hid (show waveF s = waveL s by simp [waveF, hv])
    go_wp2_with fail
    refine (sValidT_b true s G T c d _ hv hs).mono ?_
    rintro e w1 ⟨rfl, v0⟩
    replace bx := bx.below v0 bx.lt
    replace hs := hs.below v0
    replace hB := hB.trans (v0.mono (by simp))
    have z1 : w.heap.size < w1.heap.size := bx.lt
    obtain ⟨k0, k1, k2⟩ := loadS bx
    clear v0 hv
    go_wp2_with fail
    refine (sWav_any s G T c d _ hs hg).mono ?_
    rintro e w2 ⟨A2, c2, rfl, y2, v1⟩
    replace hB := hB.trans (v1.mono (Nat.le_of_lt z1))
    have HY := Lib.hid (y2.mono (lo' := w.heap.size) (Nat.le_of_lt z1))
    clear v1 k0 k1 k2 y2
    go_wp2_with fail
    go_ret
    rw [H.out]
    exact ⟨A2, c2, rfl, HY.out, hB⟩

theorem iValidT_b (b : Bool) (s : St) (G T : Option Addr) (c d : Nat) (w : World) (hb : validT s = b) (hs : RdS w s G T) :
    Calls Try.prog 47 #[strV s G T c d] w fun e w' => e = .returned (.bool b) ∧ Below w.heap.size w w' := by
  rw [← hb]; exact iValidT_any s G T c d w hs
set_option maxHeartbeats 1600000 in
theorem iWave_any (s : St) (G T : Option Addr) (c d : Nat) (w : World) (hs : RdS w s G T) :
    Calls Try.prog 23 #[strV s G T c d] w (NewS fI 3 w (waveF s)) := by
  have bx := Blk.new w 27 (strC s G T c d)
  have hs0 := hs
  replace hs := hs.alloc (.cells (strC s G T c d) 27)
  have hB := (Below.refl w.heap.size w).alloc (Nat.le_refl _) (.cells (strC s G T c d) 27)
  go_enter Try.func23, Try.ntmps23
  cases hv : validT s with
  | false =>
    have H := Lib.hid (show waveF s = [] by simp [waveF, hv])
    go_wp2_with fail
    refine (iValidT_b false s G T c d _ hv hs).mono ?_
    rintro e w1 ⟨rfl, v0⟩
    replace hB := hB.trans (v0.mono (by simp))
    clear v0 hv
    go_wp2_with fail
    go_ret
    rw [H.out]
    exact ⟨none, 0, rfl, OwnO.nil _ _ _ _, hB⟩
  | true =>
    have hg := validT_iff.mp hv
    have H := Lib.hid (show waveF s = waveL s by simp [waveF, hv])
    have hg4 := hg.g2
    have Htl := Lib.hid hg.tl
    have Hg := Lib.hid hg
    clear hg
    have hc1 := Hg.out.c1
    have hc2 := Hg.out.c2
    have hnt : s.tr.length ≤ 3 := by have := Htl.out; omega
    obtain ⟨i0, hi0, hz0, hz1, hz2⟩ := info_parts info_Int
    have hmk := fun W => run_make_n (P := Try.prog) 22 3 i0 (Value.int .i64 (0)) Try.underlying22 hi0 hz0 hz1 rfl .i64 .i64 s.gr.length s.gr.length (Nat.le_refl _) (by omega) (by omega) W
    go_wp2_with fail
    refine (iValidT_b true s G T c d _ hv hs).mono ?_
    rintro e w1 ⟨rfl, v0⟩
    replace bx := bx.below v0 bx.lt
    replace hs := hs.below v0
    replace hB := hB.trans (v0.mono (by simp))
    have z1 : w.heap.size < w1.heap.size := bx.lt
    obtain ⟨k0, k1, k2⟩ := loadS bx
    clear v0 hv
    go_wp2_with fail
    clear k0 k1 k2
    have bA := Blk.new w1 3 (Array.replicate s.gr.length (Value.int .i64 0))
    have hA := (OwnL.of_blk (xs := List.replicate s.gr.length (0 : Int)) (f := fI) (lo := w.heap.size) (by simpa using bA) (Nat.le_of_lt z1) (by simp [maxLen]; omega)).o
    replace bx := bx.alloc (.cells (Array.replicate s.gr.length (Value.int .i64 0)) 3)
    replace hs := hs.alloc (.cells (Array.replicate s.gr.length (Value.int .i64 0)) 3)
    replace hB := hB.alloc hB.size (.cells (Array.replicate s.gr.length (Value.int .i64 0)) 3)
    rw [List.length_replicate, ← wavK_zero] at hA
    have Hend := Lib.hid (wavK_end Hg.out)
    clear bA hmk
    generalize w1.alloc (.cells (Array.replicate s.gr.length (Value.int .i64 0)) 3) = w2 at *
    generalize w1.heap.size = gA at *
    go_loopw [4, 17] (fun v4 vi wr => ∃ k : Nat, k ≤ s.tr.length ∧ vi = .int .i64 k ∧ v4 = .int .i64 (goT s k) ∧ OwnO fI wr w.heap.size 3 (some ⟨gA, 0, none⟩) s.gr.length (wavK s k) ∧ Blk wr w.heap.size 27 (strC s G T c d) ∧ Below w.heap.size w wr ∧ w2.grownBy wr (some gA)) (fun _ vi _ => s.tr.length - (intOf vi).toNat)
    case atStart => exact ⟨0, Nat.zero_le _, rfl, by rw [goT_zero], hA, bx, hB, only_refl _ _⟩
    case round =>
      clear hA bx hB
      obtain ⟨k, hk, rfl, rfl, ho, bx, hb, hgr⟩ := hrel
      obtain ⟨k0, k1, k2⟩ := loadS bx
      have hbd := goT_bd Hg.out k hk
      by_cases hlt : k < s.tr.length
      case neg =>
        obtain rfl : k = s.tr.length := by omega
        go_wp2_with fail
        go_ret
        rw [H.out]
        rw [Hend.out] at ho
        have e : s.gr.length = (waveL s).length := by rw [← Hend.out, wavK_len]
        exact ⟨some ⟨gA, 0, none⟩, s.gr.length, by rw [← e]; rfl, ho, hb⟩
      obtain ⟨b2, o2, rfl, hct⟩ := (hs0.ht.below hb).at hlt
      rw [ga_at hlt] at hct
      simp only [fI] at hct
      have htb := Hg.out.tb k hlt
      have hk1 : k + 1 < s.gr.length := by have := Htl.out; omega
      obtain ⟨g', o', e', hca, hfa, -⟩ := ho.at (k := k + 1) (by rw [wavK_len]; exact hk1)
      obtain ⟨rfl, rfl⟩ : gA = g' ∧ 0 = o' := by simpa using e'
      rw [Nat.zero_add] at hca hfa
      have Hgs := Lib.hid (goT_succ s k hlt)
      have Hst := Lib.hid (wavK_set s k)
      clear e'
      generalize fI _ = z at hca
      generalize ga s.tr k = y at *
      obtain ⟨u, hu⟩ : ∃ u, u = goT s k := ⟨_, rfl⟩
      rw [← hu] at Hgs hbd
      rw [← hu]
      have Hu := Lib.hid hu
      clear hu
      have hub : 0 ≤ u + y := by omega
      have hub2 : u + y ≤ 300 := by omega
      go_wp2_with fail
      have h5 := ho.set (k := k + 1) (x := (u + y) % s.cy) (by rw [wavK_len]; exact hk1)
      rw [Nat.zero_add] at h5
      rw [← Hgs.out, Hst.out] at h5
      have hne : w.heap.size ≠ gA := by omega
      have hgr2 := only_setCell hgr (p := ⟨gA, k + 1, none⟩) (.inl rfl) (.int .i64 ((u + y) % s.cy))
      have hb2 := hb.setCell (p := ⟨gA, k + 1, none⟩) (by simp; omega) (.int .i64 ((u + y) % s.cy))
      have bx2 := bx.far (p := ⟨gA, k + 1, none⟩) hne (.int .i64 ((u + y) % s.cy))
      go_roundw
      case rel => exact ⟨k + 1, by omega, by go_num, by rw [Hgs.out], by rw [← Hgs.out]; exact h5, bx2, hb2, hgr2⟩
      case measure => simp [intOf]; omega
end Go.Proofs.Ytmnapeefclkldaa
