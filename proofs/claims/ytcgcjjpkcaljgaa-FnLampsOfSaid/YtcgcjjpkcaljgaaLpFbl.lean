/-
  Lamps: the first bad lamp, the greens.
-/
import Derived.Test.YtcgcjjpkcaljgaaLpVal
namespace Go.Proofs.Ytcgcjjpkcaljgaa
open Go.RowKit
set_option linter.unusedVariables false

theorem sValidL_v (l : List UInt8) (v : Bool) (hv : validL l = v) (w : World) (hl : l.length ≤ 1000000) :
    Calls Try.prog 17 #[strL l] w fun e w' => e = .returned (.bool v) ∧ Below w.heap.size w w' := by rw [← hv]; exact sValidL_any l w hl
theorem iValidL_v (l : List UInt8) (v : Bool) (hv : validL l = v) (w : World) (hl : l.length ≤ 1000000) :
    Calls Try.prog 16 #[strL l] w fun e w' => e = .returned (.bool v) ∧ Below w.heap.size w w' := by rw [← hv]; exact iValidL_any l w hl
theorem sFol_v (a b : UInt8) (v : Bool) (hv : folB a b = v) (h : isL a = true) (w : World) :
    Calls Try.prog 22 #[.int .u8 (a.toNat : Int), .int .u8 (b.toNat : Int)] w fun e w' => e = .returned (.bool v) ∧ w = w' := by rw [← hv]; exact sFol_any a b h w
theorem iFol_v (a b : UInt8) (v : Bool) (hv : folB a b = v) (h : isL a = true) (w : World) :
    Calls Try.prog 21 #[.int .u8 (a.toNat : Int), .int .u8 (b.toNat : Int)] w fun e w' => e = .returned (.bool v) ∧ w = w' := by rw [← hv]; exact iFol_any a b h w

set_option maxHeartbeats 800000 in
theorem sFbl_any (l : List UInt8) (w : World) (hl : l.length ≤ 1000000) :
    Calls Try.prog 12 #[strL l] w fun e w' => e = .returned (.int .i64 (fblF l)) ∧ Below w.heap.size w w' := by
  go_enter Try.func12, Try.ntmps12
  cases hv : validL l with
  | false =>
    have H := Lib.hid (show -2 = fblF l from (fblF_no hv).symm)
    go_wp2_with fail
    refine (sValidL_v l false hv _ hl).mono ?_
    rintro e w1 ⟨rfl, v1⟩
    clear hv
    go_wp2_with fail
    go_ret
    exact ⟨ret_int H.out, v1⟩
  | true =>
    go_wp2_with fail
    refine (sValidL_v l true hv _ hl).mono ?_
    rintro e w1 ⟨rfl, v1⟩
    have Hv := Lib.hid hv
    have Hl := Lib.hid (validL_iff.mp hv)
    clear hv
    go_wp2_with fail
    go_loopw [3] (fun vi wr => ∃ j : Nat, (j < l.length ∨ j = 0) ∧ vi = .int .i64 ((j : Int) + 1) ∧ (∀ i, 1 ≤ i → i < j + 1 → folB (gu l (i - 1)) (gu l i) = true) ∧ Below w.heap.size w wr) (fun vi _ => l.length - (intOf vi).toNat)
    case atStart => exact ⟨0, .inr rfl, rfl, fun i h1 h2 => by omega, v1⟩
    case round =>
      clear v1
      obtain ⟨j, hj, rfl, hp, hB⟩ := hrel
      have Hp := Lib.hid hp
      clear hp
      by_cases hlt : j + 1 < l.length
      · have hlt2 : (j : Int) + 1 < (l.length : Int) := by omega
        have hsz : j < (⟨l.toArray⟩ : ByteArray).size := by show j < l.length; omega
        have hsz1 : j + 1 < (⟨l.toArray⟩ : ByteArray).size := hlt
        have hg := gu_arr hsz (by omega)
        have hg1 := gu_arr hsz1 hlt
        have ha := Hl.out.1 j (by omega)
        have Hno := Lib.hid (fun (h : folB (gu l j) (gu l (j + 1)) = false) => fblF_at Hv.out (k := j + 1) (by omega) hlt h (fun i h1 h2 => Hp.out i h1 h2))
        have Hyes := Lib.hid (show folB (gu l j) (gu l (j + 1)) = true → ∀ i, 1 ≤ i → i < j + 1 + 1 → folB (gu l (i - 1)) (gu l i) = true from fun h i h1 h2 => by
          by_cases e : i = j + 1
          · subst e; exact h
          · exact Hp.out i h1 (by omega))
        clear Hp
        generalize gu l (j + 1) = b at *
        generalize gu l j = a at *
        go_wp2_with fail
        cases hf : folB a b with
        | false =>
          have H := Lib.hid (show (j : Int) + 1 = fblF l by rw [Hno.out hf]; omega)
          clear Hno Hyes
          refine wp_region_grow wr (by kernel_rfl) (by kernel_rfl) (Below.refl _ _) ?_
          repeat (go_big_quiet_step ((go_at_call 22; exact grow_of_same (sFol_v a b false hf ha _))))
          refine wpQuiet_nil ?_
          rintro _ ⟨z, rfl⟩
          go_wp2_with fail
          go_ret
          exact ⟨ret_int H.out, hB.trans (z.h.mono hB.size)⟩
        | true =>
          have H := Lib.hid (Hyes.out hf)
          clear Hno Hyes
          refine wp_region_grow wr (by kernel_rfl) (by kernel_rfl) (Below.refl _ _) ?_
          repeat (go_big_quiet_step ((go_at_call 22; exact grow_of_same (sFol_v a b true hf ha _))))
          refine wpQuiet_nil ?_
          rintro _ ⟨z, rfl⟩
          go_wp2_with fail
          go_roundw
          case rel => exact ⟨j + 1, .inl hlt, by go_num, H.out, hB.trans (z.h.mono hB.size)⟩
          case measure => simp [intOf]; omega
      · have H := Lib.hid (show -1 = fblF l from (fblF_none Hv.out (fun k h1 h2 => Hp.out k h1 (by omega))).symm)
        clear Hp
        go_wp2_with fail
        go_ret
        exact ⟨ret_int H.out, hB⟩
set_option maxHeartbeats 800000 in
theorem iFbl_any (l : List UInt8) (w : World) (hl : l.length ≤ 1000000) :
    Calls Try.prog 11 #[strL l] w fun e w' => e = .returned (.int .i64 (fblF l)) ∧ Below w.heap.size w w' := by
  go_enter Try.func11, Try.ntmps11
  cases hv : validL l with
  | false =>
    have H := Lib.hid (show -2 = fblF l from (fblF_no hv).symm)
    go_wp2_with fail
    refine (iValidL_v l false hv _ hl).mono ?_
    rintro e w1 ⟨rfl, v1⟩
    clear hv
    go_wp2_with fail
    go_ret
    exact ⟨ret_int H.out, v1⟩
  | true =>
    go_wp2_with fail
    refine (iValidL_v l true hv _ hl).mono ?_
    rintro e w1 ⟨rfl, v1⟩
    have Hv := Lib.hid hv
    have Hl := Lib.hid (validL_iff.mp hv)
    clear hv
    go_wp2_with fail
    go_loopw [3] (fun vi wr => ∃ j : Nat, (j < l.length ∨ j = 0) ∧ vi = .int .i64 ((j : Int) + 1) ∧ (∀ i, 1 ≤ i → i < j + 1 → folB (gu l (i - 1)) (gu l i) = true) ∧ Below w.heap.size w wr) (fun vi _ => l.length - (intOf vi).toNat)
    case atStart => exact ⟨0, .inr rfl, rfl, fun i h1 h2 => by omega, v1⟩
    case round =>
      clear v1
      obtain ⟨j, hj, rfl, hp, hB⟩ := hrel
      have Hp := Lib.hid hp
      clear hp
      by_cases hlt : j + 1 < l.length
      · have hlt2 : (j : Int) + 1 < (l.length : Int) := by omega
        have hsz : j < (⟨l.toArray⟩ : ByteArray).size := by show j < l.length; omega
        have hsz1 : j + 1 < (⟨l.toArray⟩ : ByteArray).size := hlt
        have hg := gu_arr hsz (by omega)
        have hg1 := gu_arr hsz1 hlt
        have ha := Hl.out.1 j (by omega)
        have Hno := Lib.hid (fun (h : folB (gu l j) (gu l (j + 1)) = false) => fblF_at Hv.out (k := j + 1) (by omega) hlt h (fun i h1 h2 => Hp.out i h1 h2))
        have Hyes := Lib.hid (show folB (gu l j) (gu l (j + 1)) = true → ∀ i, 1 ≤ i → i < j + 1 + 1 → folB (gu l (i - 1)) (gu l i) = true from fun h i h1 h2 => by
          by_cases e : i = j + 1
          · subst e; exact h
          · exact Hp.out i h1 (by omega))
        clear Hp
        generalize gu l (j + 1) = b at *
        generalize gu l j = a at *
        go_wp2_with fail
        cases hf : folB a b with
        | false =>
          have H := Lib.hid (show (j : Int) + 1 = fblF l by rw [Hno.out hf]; omega)
          clear Hno Hyes
          refine wp_region_grow wr (by kernel_rfl) (by kernel_rfl) (Below.refl _ _) ?_
          repeat (go_big_quiet_step ((go_at_call 21; exact grow_of_same (iFol_v a b false hf ha _))))
          refine wpQuiet_nil ?_
          rintro _ ⟨z, rfl⟩
          go_wp2_with fail
          go_ret
          exact ⟨ret_int H.out, hB.trans (z.h.mono hB.size)⟩
        | true =>
          have H := Lib.hid (Hyes.out hf)
          clear Hno Hyes
          refine wp_region_grow wr (by kernel_rfl) (by kernel_rfl) (Below.refl _ _) ?_
          repeat (go_big_quiet_step ((go_at_call 21; exact grow_of_same (iFol_v a b true hf ha _))))
          refine wpQuiet_nil ?_
          rintro _ ⟨z, rfl⟩
          go_wp2_with fail
          go_roundw
          case rel => exact ⟨j + 1, .inl hlt, by go_num, H.out, hB.trans (z.h.mono hB.size)⟩
          case measure => simp [intOf]; omega
      · have H := Lib.hid (show -1 = fblF l from (fblF_none Hv.out (fun k h1 h2 => Hp.out k h1 (by omega))).symm)
        clear Hp
        go_wp2_with fail
        go_ret
        exact ⟨ret_int H.out, hB⟩

theorem greensF_length (l : List UInt8) : (greensF l).length ≤ 200 := by
  unfold greensF
  split
  · rename_i h
    rw [mapN_length]; exact (validL_iff.mp h).2
  · simp
def grnN (l : List UInt8) (n : Nat) : List Bool := mapN n fun i => gu l i == 71
theorem grnN_length (l : List UInt8) (n : Nat) : (grnN l n).length = n := mapN_length _ _
theorem grnN_succ (l : List UInt8) (n : Nat) : grnN l (n + 1) = grnN l n ++ [gu l n == 71] := mapN_succ _ _
set_option maxHeartbeats 800000 in
theorem sGrn_any (l : List UInt8) (w : World) (hl : l.length ≤ 1000000) :
    Calls Try.prog 9 #[strL l] w (NewS fB 4 w (greensF l)) := by
  obtain ⟨i0, hi0, hz0, hz1, hz2⟩ := info_parts info_Bool
  have h0 := (OwnL.of_cap (lo := w.heap.size) fB (Blk.new w 4 #[]) (Nat.le_refl _) rfl (by simp [maxLen])).o
  have hB := (Below.refl w.heap.size w).alloc (Nat.le_refl _) (.cells #[] 4)
  go_enter Try.func9, Try.ntmps9
  cases hv : validL l with
  | false =>
    have H := Lib.hid (show greensF l = [] by simp [greensF, hv])
    clear h0
    go_wp2_with fail
    refine (sValidL_v l false hv _ hl).mono ?_
    rintro e w1 ⟨rfl, v1⟩
    replace hB := hB.trans (v1.mono hB.size)
    clear hv v1
    go_wp2_with fail
    go_ret
    rw [H.out]
    exact ⟨none, 0, rfl, OwnO.nil _ _ _ _, hB⟩
  | true =>
    have H := Lib.hid (show greensF l = grnN l l.length by simp [greensF, hv, grnN])
    go_wp2_with fail
    refine (sValidL_v l true hv _ hl).mono ?_
    rintro e w1 ⟨rfl, v1⟩
    replace hB := hB.trans (v1.mono hB.size)
    replace h0 := h0.below v1
    clear hv v1
    go_wp2_with fail
    go_loopw [3, 4] (fun v3 vi wr => ∃ k : Nat, k ≤ l.length ∧ vi = .int .i64 k ∧ (∃ A1 c1 ys, v3 = .slice A1 ys.length c1 ∧ OwnO fB wr w.heap.size 4 A1 c1 ys ∧ Hid (ys = grnN l k)) ∧ Below w.heap.size w wr) (fun _ vi _ => l.length - (intOf vi).toNat)
    case atStart => exact ⟨0, Nat.zero_le _, rfl, ⟨_, _, [], rfl, h0, Lib.hid rfl⟩, hB⟩
    case round =>
      clear h0 hB
      obtain ⟨k, hk, rfl, ⟨A1, c1, ys, rfl, ho, hys⟩, hB⟩ := hrel
      have hyl : ys.length ≤ 1000000 := by rw [hys.out, grnN_length]; omega
      by_cases hlt : k < l.length
      · have hsz : k < (⟨l.toArray⟩ : ByteArray).size := hlt
        have hg := gu_arr hsz hlt
        have hst := Lib.hid (grnN_succ l k)
        obtain ⟨x, hx⟩ : ∃ x, x = (gu l k == 71) := ⟨_, rfl⟩
        have hu : (((gu l k).toNat : Int) == 71) = x := by rw [hx]; exact u8c _ 71
        have Hx := Lib.hid hx
        clear hx
        generalize gu l k = u at *
        have hz := hB.size
        have hal := ho.lt
        go_wp2_with (at_builtin; go_must (refine wpList_pushO rfl (.tmp 15) (.tmp 20) 24 rfl i0 _ 1 Try.underlying24 hi0 hz0 hz1 hz2 rfl rfl (ho.alloc (.cells #[.bool x] 4)) wr.heap.size x rfl (cell_new _ _ _) rfl (by omega) (by omega) (by simp; omega) ?_); intro A3 c3 w3 ho3 hg3 hb3)
        have hB3 := below_push hz hB hal hg3
        go_roundw
        case rel => exact ⟨k + 1, by omega, by go_num, ⟨A3, c3, ys ++ [x], by simp, ho3, Lib.hid (by rw [hst.out, hys.out, Hx.out])⟩, hB3⟩
        case measure => simp [intOf]; omega
      · obtain rfl : k = l.length := by omega
        have e := hys.out
        go_wp2_with fail
        go_ret
        rw [H.out, ← hys.out]
        exact ⟨A1, c1, rfl, ho, hB⟩
end Go.Proofs.Ytcgcjjpkcaljgaa
