/-
  Streets: PassesStreet and BandOf on both sides.
-/
import Derived.Test.YtmnapeefclkldaaStPass
namespace Go.Proofs.Ytmnapeefclkldaa
open Go.RowKit
set_option linter.unusedVariables false

theorem sValidO_b (b : Bool) (s : St) (os : List Int) (G T O : Option Addr) (c d f : Nat) (w : World) (hb : validO s os = b) (hs : RdS w s G T) (ho : RdL fI w O os) (no : os.length ≤ 2000000) :
    Calls Try.prog 39 #[strV s G T c d, .slice O os.length f] w fun e w' => e = .returned (.bool b) ∧ Below w.heap.size w w' := by
  rw [← hb]; exact sValidO_any s os G T O c d f w hs ho no
theorem iValidO_b (b : Bool) (s : St) (os : List Int) (G T O : Option Addr) (c d f : Nat) (w : World) (hb : validO s os = b) (hs : RdS w s G T) (ho : RdL fI w O os) (no : os.length ≤ 2000000) :
    Calls Try.prog 42 #[strV s G T c d, .slice O os.length f] w fun e w' => e = .returned (.bool b) ∧ Below w.heap.size w w' := by
  rw [← hb]; exact iValidO_any s os G T O c d f w hs ho no

/-! ### a car -/
theorem inRange_b (b : Bool) (x lo hi : Int) (w : World) (h : inB x lo hi = b) : Calls Try.prog 40 #[.int .i64 x, .int .i64 lo, .int .i64 hi] w fun e w' => e = .returned (.bool b) ∧ w = w' := by
  rw [← h]; exact inRange_any _ _ _ _
theorem sPass_mod (s : St) (os : List Int) (G T O : Option Addr) (c d f : Nat) (t : Int) (w : World) (hs : RdS w s G T) (ho : RdL fI w O os) (hv : GoodO s os) (ht0 : 0 ≤ t % s.cy) (ht1 : t % s.cy ≤ 20000) :
    Calls Try.prog 41 #[strV s G T c d, .slice O os.length f, .int .i64 (t % s.cy)] w fun e w' => e = .returned (.bool (passF s os t)) ∧ Below w.heap.size w w' := by
  rw [← passF_mod]; exact sPass_any s os G T O c d f _ w hs ho hv ht0 ht1
set_option maxHeartbeats 1600000 in
theorem sPasses_any (s : St) (os : List Int) (G T O : Option Addr) (c d f : Nat) (t : Int) (w : World) (hs : RdS w s G T) (ho : RdL fI w O os) (no : os.length ≤ 2000000) :
    Calls Try.prog 16 #[strV s G T c d, .slice O os.length f, .int .i64 t] w fun e w' => e = .returned (.bool (passesF s os t)) ∧ Below w.heap.size w w' := by
  have bx := Blk.new w 27 (strC s G T c d)
  replace hs := hs.alloc (.cells (strC s G T c d) 27)
  replace ho := ho.alloc (.cells (strC s G T c d) 27)
  have hB := (Below.refl w.heap.size w).alloc (Nat.le_refl _) (.cells (strC s G T c d) 27)
  go_enter Try.func16, Try.ntmps16
  go_wp2_with fail
  generalize w.alloc (.cells (strC s G T c d) 27) = w1 at *
  obtain ⟨gb, hgb⟩ : ∃ gb, gb = w.heap.size := ⟨_, rfl⟩
  rw [← hgb] at bx
  simp only [← hgb]
  have Hgb := Lib.hid hgb
  clear hgb
  have fin : ∀ y : Grow w1, Below w.heap.size w y.x := fun y => hB.trans (y.h.mono (by have := bx.lt; have := Hgb.out; omega))
  obtain ⟨q0, q1, q2⟩ := loadS bx
  have k0 := Grow.cell q0
  have k1 := Grow.cell q1
  have k2 := Grow.cell q2
  clear q0 q1 q2 bx hB
  cases hv : validO s os with
  | false =>
    have H := Lib.hid (show false = passesF s os t by simp [passesF, hv])
    refine wp_region_grow w1 (by kernel_rfl) (by kernel_rfl) (Below.refl _ _) ?_
    repeat (go_big_quiet_step ((go_at_call 39; exact grow_of (sValidO_b false s os G T O c d f _ hv (hs.below (Grow.h _)) (ho.grow _) no))))
    refine wpQuiet_nil ?_
    rintro _ ⟨z, rfl⟩
    go_wp2_with fail
    go_ret
    exact ⟨ret_bool H.out, fin z⟩
  | true =>
    cases hi : inB t 0 9999 with
    | false =>
      have H := Lib.hid (show false = passesF s os t by simp [passesF, hv, hi])
      refine wp_region_grow w1 (by kernel_rfl) (by kernel_rfl) (Below.refl _ _) ?_
      repeat (go_big_quiet_step ((first | (go_at_call 39; exact grow_of (sValidO_b true s os G T O c d f _ hv (hs.below (Grow.h _)) (ho.grow _) no)) | (go_at_call 40; exact grow_of_same (inRange_b false _ _ _ _ hi)))))
      refine wpQuiet_nil ?_
      rintro _ ⟨z, rfl⟩
      go_wp2_with fail
      go_ret
      exact ⟨ret_bool H.out, fin z⟩
    | true =>
      have H := Lib.hid (show passF s os t = passesF s os t by simp [passesF, hv, hi])
      have hg := validO_iff.mp hv
      have hc1 := hg.g.c1
      have hc2 := hg.g.c2
      obtain ⟨ht0, ht1⟩ := inB_iff.mp hi
      have hm0 := Int.emod_nonneg t (show s.cy ≠ 0 by omega)
      have hm1 := Int.emod_lt_of_pos t (show 0 < s.cy by omega)
      have hm2 : t % s.cy ≤ 20000 := by omega
      clear hm1
      refine wp_region_grow w1 (by kernel_rfl) (by kernel_rfl) (Below.refl _ _) ?_
      repeat (go_big_quiet_step ((first | (go_at_call 39; exact grow_of (sValidO_b true s os G T O c d f _ hv (hs.below (Grow.h _)) (ho.grow _) no)) | (go_at_call 40; exact grow_of_same (inRange_b true _ _ _ _ hi)) | (go_at_call 41; exact grow_of (sPass_mod s os G T O c d f t _ (hs.below (Grow.h _)) (ho.grow _) hg hm0 hm2)))))
      refine wpQuiet_nil ?_
      rintro _ ⟨z, rfl⟩
      go_wp2_with fail
      go_ret
      exact ⟨ret_bool H.out, fin z⟩

theorem within_b (b : Bool) (x lo hi : Int) (w : World) (h : inB x lo hi = b) : Calls Try.prog 43 #[.int .i64 x, .int .i64 lo, .int .i64 hi] w fun e w' => e = .returned (.bool b) ∧ w = w' := by
  rw [← h]; exact within_any _ _ _ _
set_option maxHeartbeats 1600000 in
theorem iPasses_any (s : St) (os : List Int) (G T O : Option Addr) (c d f : Nat) (t : Int) (w : World) (hs : RdS w s G T) (ho : RdL fI w O os) (no : os.length ≤ 2000000) :
    Calls Try.prog 19 #[strV s G T c d, .slice O os.length f, .int .i64 t] w fun e w' => e = .returned (.bool (passesF s os t)) ∧ Below w.heap.size w w' := by
  have bx := Blk.new w 27 (strC s G T c d)
  replace hs := hs.alloc (.cells (strC s G T c d) 27)
  replace ho := ho.alloc (.cells (strC s G T c d) 27)
  have hB := (Below.refl w.heap.size w).alloc (Nat.le_refl _) (.cells (strC s G T c d) 27)
  go_enter Try.func19, Try.ntmps19
  cases hv : validO s os with
  | false =>
    have H := Lib.hid (show false = passesF s os t by simp [passesF, hv])
    go_wp2_with fail
    refine (iValidO_b false s os G T O c d f _ hv hs ho no).mono ?_
    rintro e w1 ⟨rfl, v0⟩
    replace hB := hB.trans (v0.mono (by simp))
    clear v0 hv
    go_wp2_with fail
    go_ret
    exact ⟨ret_bool H.out, hB⟩
  | true =>
    have hg := validO_iff.mp hv
    go_wp2_with fail
    refine (iValidO_b true s os G T O c d f _ hv hs ho no).mono ?_
    rintro e w1 ⟨rfl, v0⟩
    replace bx := bx.below v0 bx.lt
    replace ho := ho.below v0
    replace hs := hs.below v0
    replace hB := hB.trans (v0.mono (by simp))
    obtain ⟨k0, k1, k2⟩ := loadS bx
    have z1 : w.heap.size < w1.heap.size := bx.lt
    clear v0 bx
    cases hi : inB t 0 9999 with
    | false =>
      have H := Lib.hid (show false = passesF s os t by simp [passesF, hv, hi])
      clear hv
      go_wp2_with fail
      refine (within_b false _ _ _ _ hi).mono ?_
      rintro e w' ⟨rfl, rfl⟩
      go_wp2_with fail
      go_ret
      exact ⟨ret_bool H.out, hB⟩
    | true =>
      have H := Lib.hid (show passF s os t = passesF s os t by simp [passesF, hv, hi])
      obtain ⟨ht0, ht1⟩ := inB_iff.mp hi
      clear hv
      go_wp2_with fail
      refine (within_b true _ _ _ _ hi).mono ?_
      rintro e w' ⟨rfl, rfl⟩
      clear hi
      go_wp2_with fail
      refine (iPass_any s os G T O c d f t _ hs ho hg ht0 (by omega)).mono ?_
      rintro e w2 ⟨rfl, v1⟩
      replace hB := hB.trans (v1.mono (Nat.le_of_lt z1))
      clear v1 k0 k1 k2
      go_wp2_with fail
      go_ret
      exact ⟨ret_bool H.out, hB⟩

/-! ### the band -/
theorem bandN_succ (s : St) (os : List Int) (n : Nat) : bandN s os (n + 1) = bandN s os n + if passF s os (n : Int) then 1 else 0 := rfl
theorem bandN_bd (s : St) (os : List Int) (n : Nat) : 0 ≤ bandN s os n ∧ bandN s os n ≤ n := cntN_bd _ n

set_option maxHeartbeats 1600000 in
theorem iBand_any (s : St) (os : List Int) (G T O : Option Addr) (c d f : Nat) (w : World) (hs : RdS w s G T) (ho : RdL fI w O os) (no : os.length ≤ 2000000) :
    Calls Try.prog 28 #[strV s G T c d, .slice O os.length f] w fun e w' => e = .returned (.int .i64 (bandF s os)) ∧ Below w.heap.size w w' := by
  have bx := Blk.new w 27 (strC s G T c d)
  replace hs := hs.alloc (.cells (strC s G T c d) 27)
  replace ho := ho.alloc (.cells (strC s G T c d) 27)
  have hB := (Below.refl w.heap.size w).alloc (Nat.le_refl _) (.cells (strC s G T c d) 27)
  go_enter Try.func28, Try.ntmps28
  cases hv : validO s os with
  | false =>
    have H := Lib.hid (show -1 = bandF s os by simp [bandF, hv])
    go_wp2_with fail
    refine (iValidO_b false s os G T O c d f _ hv hs ho no).mono ?_
    rintro e w1 ⟨rfl, v0⟩
    replace hB := hB.trans (v0.mono (by simp))
    clear v0 hv
    go_wp2_with fail
    go_ret
    exact ⟨ret_int H.out, hB⟩
  | true =>
    have hg := validO_iff.mp hv
    have H := Lib.hid (show bandN s os s.cy.toNat = bandF s os by simp [bandF, hv])
    have hc1 := hg.g.c1
    have hc2 := hg.g.c2
    go_wp2_with fail
    refine (iValidO_b true s os G T O c d f _ hv hs ho no).mono ?_
    rintro e w1 ⟨rfl, v0⟩
    replace bx := bx.below v0 bx.lt
    replace ho := ho.below v0
    replace hs := hs.below v0
    replace hB := hB.trans (v0.mono (by simp))
    have z1 : w.heap.size < w1.heap.size := bx.lt
    obtain ⟨k0, k1, k2⟩ := loadS bx
    clear v0 hv
    go_wp2_with fail
    clear k0 k1 k2
    obtain ⟨gb, hgb⟩ : ∃ gb, gb = w.heap.size := ⟨_, rfl⟩
    rw [← hgb] at bx
    simp only [← hgb]
    have Hgb := Lib.hid hgb
    clear hgb
    go_loopw [5, 13] (fun vn vi wr => ∃ k : Nat, (k : Int) ≤ s.cy ∧ vi = .int .i64 k ∧ vn = .int .i64 (bandN s os k) ∧ Below w1.heap.size w1 wr) (fun _ vi _ => (s.cy - intOf vi).toNat)
    case atStart => exact ⟨0, by omega, rfl, rfl, Below.refl _ _⟩
    case round =>
      obtain ⟨k, hk, rfl, rfl, hb⟩ := hrel
      have bx2 := bx.below hb bx.lt
      obtain ⟨k0, k1, k2⟩ := loadS bx2
      have hbd := bandN_bd s os k
      by_cases hlt : (k : Int) < s.cy
      case neg =>
        obtain rfl : k = s.cy.toNat := by omega
        go_wp2_with fail
        go_ret
        exact ⟨ret_int H.out, hB.trans (hb.mono (Nat.le_of_lt z1))⟩
      have hsucc := Lib.hid (bandN_succ s os k)
      go_wp2_with fail
      refine (iPass_any s os G T O c d f k _ (hs.below hb) (ho.below hb) hg (by omega) (by omega)).mono ?_
      rintro e w2 ⟨rfl, v1⟩
      replace hb := hb.trans (v1.mono hb.size)
      clear v1 k0 k1 k2 bx2
      cases hp : passF s os (k : Int)
      · go_wp2_with fail
        go_roundw
        case rel => exact ⟨k + 1, by omega, by go_num, by rw [hsucc.out, hp]; simp, hb⟩
        case measure => simp [intOf]; omega
      · go_wp2_with fail
        go_roundw
        case rel => exact ⟨k + 1, by omega, by go_num, by rw [hsucc.out, hp]; simp, hb⟩
        case measure => simp [intOf]; omega

theorem toInt_any (b : Bool) (w : World) : Calls Try.prog 60 #[.bool b] w fun e w' => e = .returned (.int .i64 (if b then 1 else 0)) ∧ w = w' := by
  cases b
  · go_enter Try.func60, Try.ntmps60
    go_wp2
    go_ret
    exact ⟨rfl, rfl⟩
  · go_enter Try.func60, Try.ntmps60
    go_wp2
    go_ret
    exact ⟨rfl, rfl⟩
set_option maxHeartbeats 1600000 in
theorem sband_any (s : St) (os : List Int) (G T O : Option Addr) (c d f : Nat) (w : World) (hs : RdS w s G T) (ho : RdL fI w O os) (hg : GoodO s os) :
    Calls Try.prog 48 #[strV s G T c d, .slice O os.length f] w fun e w' => e = .returned (.int .i64 (bandN s os s.cy.toNat)) ∧ Below w.heap.size w w' := by
  have bx := Blk.new w 27 (strC s G T c d)
  replace hs := hs.alloc (.cells (strC s G T c d) 27)
  replace ho := ho.alloc (.cells (strC s G T c d) 27)
  have hB := (Below.refl w.heap.size w).alloc (Nat.le_refl _) (.cells (strC s G T c d) 27)
  have hc1 := hg.g.c1
  have hc2 := hg.g.c2
  go_enter Try.func48, Try.ntmps48
  go_wp2_with fail
  have z1 : w.heap.size < (w.alloc (.cells (strC s G T c d) 27)).heap.size := by simp
  generalize w.alloc (.cells (strC s G T c d) 27) = w1 at *
  obtain ⟨gb, hgb⟩ : ∃ gb, gb = w.heap.size := ⟨_, rfl⟩
  rw [← hgb] at bx
  simp only [← hgb]
  have Hgb := Lib.hid hgb
  clear hgb
  go_loopw [5, 6] (fun vn vi wr => ∃ k : Nat, (k : Int) ≤ s.cy ∧ vi = .int .i64 k ∧ vn = .int .i64 (bandN s os k) ∧ Below w1.heap.size w1 wr) (fun _ vi _ => (s.cy - intOf vi).toNat)
  case atStart => exact ⟨0, by omega, rfl, rfl, Below.refl _ _⟩
  case round =>
    obtain ⟨k, hk, rfl, rfl, hb⟩ := hrel
    have bx2 := bx.below hb bx.lt
    obtain ⟨k0, k1, k2⟩ := loadS bx2
    have hbd := bandN_bd s os k
    by_cases hlt : (k : Int) < s.cy
    case neg =>
      obtain rfl : k = s.cy.toNat := by omega
      go_wp2_with fail
      go_ret
      exact ⟨rfl, hB.trans (hb.mono (Nat.le_of_lt z1))⟩
    have hsucc := Lib.hid (bandN_succ s os k)
    go_wp2_with fail
    refine (sPass_any s os G T O c d f k _ (hs.below hb) (ho.below hb) hg (by omega) (by omega)).mono ?_
    rintro e w2 ⟨rfl, v1⟩
    replace hb := hb.trans (v1.mono hb.size)
    clear v1 k0 k1 k2 bx2
    cases hp : passF s os (k : Int)
    all_goals
      go_wp2_with fail
      refine (toInt_any _ _).mono ?_
      rintro e w' ⟨rfl, rfl⟩
      go_wp2_with fail
      go_roundw
      case rel => exact ⟨k + 1, by omega, by go_num, by rw [hsucc.out, hp]; simp, hb⟩
      case measure => simp [intOf]; omega

set_option maxHeartbeats 1600000 in
theorem sBand_any (s : St) (os : List Int) (G T O : Option Addr) (c d f : Nat) (w : World) (hs : RdS w s G T) (ho : RdL fI w O os) (no : os.length ≤ 2000000) :
    Calls Try.prog 27 #[strV s G T c d, .slice O os.length f] w fun e w' => e = .returned (.int .i64 (bandF s os)) ∧ Below w.heap.size w w' := by
  have bx := Blk.new w 27 (strC s G T c d)
  replace hs := hs.alloc (.cells (strC s G T c d) 27)
  replace ho := ho.alloc (.cells (strC s G T c d) 27)
  have hB := (Below.refl w.heap.size w).alloc (Nat.le_refl _) (.cells (strC s G T c d) 27)
  go_enter Try.func27, Try.ntmps27
  cases hv : validO s os with
  | false =>
    have H := Lib.hid (show -1 = bandF s os by simp [bandF, hv])
    go_wp2_with fail
    refine (sValidO_b false s os G T O c d f _ hv hs ho no).mono ?_
    rintro e w1 ⟨rfl, v0⟩
    replace hB := hB.trans (v0.mono (by simp))
    clear v0 hv
    go_wp2_with fail
    go_ret
    exact ⟨ret_int H.out, hB⟩
  | true =>
    have hg := validO_iff.mp hv
    have H := Lib.hid (show bandN s os s.cy.toNat = bandF s os by simp [bandF, hv])
    go_wp2_with fail
    refine (sValidO_b true s os G T O c d f _ hv hs ho no).mono ?_
    rintro e w1 ⟨rfl, v0⟩
    replace bx := bx.below v0 bx.lt
    replace ho := ho.below v0
    replace hs := hs.below v0
    replace hB := hB.trans (v0.mono (by simp))
    have z1 : w.heap.size < w1.heap.size := bx.lt
    obtain ⟨k0, k1, k2⟩ := loadS bx
    clear v0 hv
    go_wp2_with fail
    refine (sband_any s os G T O c d f _ hs ho hg).mono ?_
    rintro e w2 ⟨rfl, v1⟩
    replace hB := hB.trans (v1.mono (Nat.le_of_lt z1))
    clear v1 k0 k1 k2
    go_wp2_with fail
    go_ret
    exact ⟨ret_int H.out, hB⟩
end Go.Proofs.Ytmnapeefclkldaa
