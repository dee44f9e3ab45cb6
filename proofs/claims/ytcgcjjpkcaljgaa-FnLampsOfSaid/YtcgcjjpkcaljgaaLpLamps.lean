/-
  Lamps: the lamps of a signal, the greens of lamps.
-/
import Derived.Laws.IdiomStrings
import Derived.Lib.BufferRead
import Derived.Test.YtcgcjjpkcaljgaaLpFbl
import Derived.Test.YtcgcjjpkcaljgaaLpSh
namespace Go.Proofs.Ytcgcjjpkcaljgaa
open Go.RowKit
set_option linter.unusedVariables false

abbrev fU : UInt8 → Value := fun y => Value.int .u8 (y.toNat : Int)
theorem info_U8 : (Try.prog.info? 5).map (fun i => (i.zero, i.size, i.bytes)) = some (some (Value.int .u8 0), 1, 1) := by kernel_rfl
theorem conv_rd (l : List UInt8) (A : Option Addr) (c : Nat) (w : World) (h : RdL fU w A l) : (convert 22 9 (.slice A l.length c)).run Try.prog w = .ok (strL l) w := by
  rcases h with rfl | ⟨b, o, rfl, hc⟩
  · cases A with
    | none => exact Lib.run_convert_nil_bytes w _ _ _ c Try.underlying22 Try.underlying5 Try.underlying9
    | some a => exact run_convert_bytes_back w _ _ _ a c [] Try.underlying22 Try.underlying5 Try.underlying9 (fun j hj => by simp at hj)
  · refine run_convert_bytes_back w _ _ _ ⟨b, o, none⟩ c l Try.underlying22 Try.underlying5 Try.underlying9 (fun j hj => ?_)
    have := hc j _ (List.getElem?_eq_getElem hj)
    by_cases h0 : j = 0
    · subst h0; simpa [Addr.add] using this
    · simpa [Addr.add, h0] using this

def grnK (l : List UInt8) (k : Nat) : List Bool := mapN l.length fun i => if i < k then gu l i == 71 else false
theorem grnK_length (l : List UInt8) (k : Nat) : (grnK l k).length = l.length := mapN_length _ _
theorem grnK_zero (l : List UInt8) : grnK l 0 = List.replicate l.length false := by
  apply List.ext_getElem
  · rw [grnK_length, List.length_replicate]
  · intro i h1 h2
    simp only [grnK]
    rw [mapN_get, if_neg (by omega), List.getElem_replicate]
theorem mapN_set {α : Type} (n : Nat) (f : Nat → α) (k : Nat) (v : α) : (mapN n f).set k v = mapN n fun i => if i = k then v else f i := by
  apply List.ext_getElem
  · rw [List.length_set, mapN_length, mapN_length]
  · intro i h1 h2
    rw [mapN_get, List.getElem_set]
    by_cases e : k = i
    · rw [if_pos e, if_pos e.symm]
    · rw [if_neg e, if_neg (fun h => e h.symm), mapN_get]
theorem grnK_set (l : List UInt8) (k : Nat) : (grnK l k).set k (gu l k == 71) = grnK l (k + 1) := by
  unfold grnK
  rw [mapN_set]
  refine mapN_congr fun i hi => ?_
  by_cases e : i = k
  · subst e; simp
  · rw [if_neg e]
    by_cases h : i < k
    · rw [if_pos h, if_pos (by omega)]
    · rw [if_neg h, if_neg (by omega)]
theorem grnK_end (l : List UInt8) : grnK l l.length = grnN l l.length := mapN_congr fun i hi => by rw [if_pos hi]

set_option maxHeartbeats 800000 in
theorem iGrn_any (l : List UInt8) (w : World) (hl : l.length ≤ 1000000) :
    Calls Try.prog 7 #[strL l] w (NewS fB 4 w (greensF l)) := by
  obtain ⟨i0, hi0, hz0, hz1, hz2⟩ := info_parts info_Bool
  have hmk := fun W => run_make_n (P := Try.prog) 24 4 i0 (Value.bool false) Try.underlying24 hi0 hz0 hz1 rfl .i64 .i64 l.length l.length (Nat.le_refl _) (by omega) (by omega) W
  go_enter Try.func7, Try.ntmps7
  cases hv : validL l with
  | false =>
    have H := Lib.hid (show greensF l = [] by simp [greensF, hv])
    clear hmk
    go_wp2_with fail
    refine (iValidL_v l false hv _ hl).mono ?_
    rintro e w1 ⟨rfl, v1⟩
    clear hv
    go_wp2_with fail
    go_ret
    rw [H.out]
    exact ⟨none, 0, rfl, OwnO.nil _ _ _ _, v1⟩
  | true =>
    have H := Lib.hid (show greensF l = grnK l l.length by rw [grnK_end]; simp [greensF, hv, grnN])
    go_wp2_with fail
    refine (iValidL_v l true hv _ hl).mono ?_
    rintro e w1 ⟨rfl, v1⟩
    clear hv
    go_wp2_with fail
    clear hmk
    have hz1' := v1.size
    have bA := Blk.new w1 4 (Array.replicate l.length (Value.bool false))
    have hA := (OwnL.of_blk (xs := List.replicate l.length false) (f := fB) (lo := w.heap.size) (by simpa using bA) hz1' (by simp [maxLen]; omega)).o
    rw [List.length_replicate, ← grnK_zero] at hA
    have hB := v1.alloc hz1' (.cells (Array.replicate l.length (Value.bool false)) 4)
    clear bA v1
    generalize w1.alloc (.cells (Array.replicate l.length (Value.bool false)) 4) = w2 at *
    generalize w1.heap.size = gA at *
    go_loopw [13] (fun vi wr => ∃ k : Nat, k ≤ l.length ∧ vi = .int .i64 k ∧ OwnO fB wr w.heap.size 4 (some ⟨gA, 0, none⟩) l.length (grnK l k) ∧ Below w.heap.size w wr) (fun vi _ => l.length - (intOf vi).toNat)
    case atStart => exact ⟨0, Nat.zero_le _, rfl, hA, hB⟩
    case round =>
      clear hA hB
      obtain ⟨k, hk, rfl, ho, hB⟩ := hrel
      by_cases hlt : k < l.length
      · have hsz : k < (⟨l.toArray⟩ : ByteArray).size := hlt
        have hg := gu_arr hsz hlt
        have hst := Lib.hid (grnK_set l k)
        obtain ⟨g', o', e', hca, hfa, -⟩ := ho.at (k := k) (by rw [grnK_length]; exact hlt)
        obtain ⟨rfl, rfl⟩ : gA = g' ∧ 0 = o' := by simpa using e'
        rw [Nat.zero_add] at hca hfa
        have h5 := Lib.hid (ho.set (k := k) (x := (gu l k == 71)) (by rw [grnK_length]; exact hlt))
        have hu : (((gu l k).toNat : Int) == 71) = (gu l k == 71) := u8c _ 71
        obtain ⟨x, hx⟩ : ∃ x, x = (gu l k == 71) := ⟨_, rfl⟩
        rw [← hx] at hu h5 hst
        clear hx e'
        generalize fB _ = z at hca
        generalize gu l k = u at *
        go_wp2_with fail
        have h6 := h5.out
        rw [Nat.zero_add, hst.out] at h6
        have hb2 := hB.setCell (p := ⟨gA, k, none⟩) hz1' (.bool x)
        go_roundw
        case rel => exact ⟨k + 1, by omega, by go_num, h6, hb2⟩
        case measure => simp [intOf]; omega
      · obtain rfl : k = l.length := by omega
        go_wp2_with fail
        go_ret
        rw [H.out]
        exact ⟨some ⟨gA, 0, none⟩, l.length, by rw [grnK_length]; rfl, ho, hB⟩

theorem lampAt_on {gs : List Bool} {k : Nat} (h : gb gs k = true) : lampAt gs k = 71 := by simp [lampAt, h]
theorem lampAt_yel {gs : List Bool} {k : Nat} (h : gb gs k = false) (hy : 0 < yel gs k) : lampAt gs k = 89 := by simp [lampAt, h, hy]
theorem lampAt_a {gs : List Bool} {k : Nat} (h : gb gs k = false) (hy : ¬ 0 < yel gs k) (hn : gb gs (k + 1) = true) : lampAt gs k = 65 := by
  have : yel gs k = 0 := by omega
  simp [lampAt, h, this, hn]
theorem lampAt_r {gs : List Bool} {k : Nat} (h : gb gs k = false) (hy : ¬ 0 < yel gs k) (hn : gb gs (k + 1) = false) : lampAt gs k = 82 := by
  have : yel gs k = 0 := by omega
  simp [lampAt, h, this, hn]
theorem lampF_eq {gs : List Bool} (h : gs.length ≤ 200) : lampF gs = lampN gs gs.length := by simp [lampF, h]
theorem yel_on {gs : List Bool} {k : Nat} (h : gb gs k = true) : yel gs (k + 1) = 3 := by simp [yel, h]
theorem yel_off {gs : List Bool} {k : Nat} (h : gb gs k = false) : yel gs (k + 1) = yel gs k - 1 := by simp [yel, h]

set_option maxHeartbeats 1600000 in
theorem iLamps_any (gs : List Bool) (A : Option Addr) (c : Nat) (w : World) (hr : RdL fB w A gs) (hn : gs.length ≤ 1000000) :
    Calls Try.prog 14 #[.slice A gs.length c] w fun e w' => e = .returned (strL (lampF gs)) ∧ Below w.heap.size w w' := by
  by_cases h2 : 200 < gs.length
  · have H := Lib.hid (show lampF gs = [] by simp [lampF]; omega)
    go_enter Try.func14, Try.ntmps14
    go_wp2_with fail
    go_ret
    rw [H.out]
    exact ⟨rfl, Below.refl _ _⟩
  have H := Lib.hid (lampF_eq (gs := gs) (by omega))
  have hF : Bld w.heap.size w.heap.size [] (w.alloc (.cells #[.pointer none, .slice none 0 0] 40)) := Lib.fresh_isBuilder _ _ w
  have hB := (Below.refl w.heap.size w).alloc (Nat.le_refl _) (.cells #[.pointer none, .slice none 0 0] 40)
  go_enter Try.func14, Try.ntmps14
  go_wp2_with fail
  go_loopw [4, 12] (fun v4 vi wr => ∃ k : Nat, k ≤ gs.length ∧ vi = .int .i64 k ∧ v4 = .int .i64 (yel gs k) ∧ Bld w.heap.size w.heap.size (lampN gs k) wr ∧ Below w.heap.size w wr) (fun _ vi _ => gs.length - (intOf vi).toNat)
  case atStart => exact ⟨0, Nat.zero_le _, rfl, rfl, hF, hB⟩
  case round =>
    clear hF hB
    obtain ⟨k, hk, rfl, rfl, hF, hB⟩ := hrel
    have hz := hB.size
    have hlen : (lampN gs k).length ≤ 1000000 := by rw [lampN_length]; omega
    by_cases hlt : k < gs.length
    case neg =>
      obtain rfl : k = gs.length := by omega
      have hst := bldString_any w.heap.size w.heap.size (lampN gs gs.length) wr hF hz
      go_wp2_with fail
      refine hst.mono ?_
      rintro e w2 ⟨rfl, v2⟩
      have hB2 := hB.trans v2
      clear hst hF hB v2
      go_wp2_with fail
      go_ret
      rw [H.out]
      exact ⟨rfl, hB2⟩
    obtain ⟨b, o, rfl, hc⟩ := (hr.below hB).at hlt
    rw [gb_at hlt] at hc
    simp only [fB] at hc
    have hy3 := yel_bd gs k
    have Hsu := Lib.hid (lampN_succ gs k)
    cases hg : gb gs k with
    | true =>
      have Hl := Lib.hid (lampAt_on hg)
      have Hy := Lib.hid (yel_on hg)
      have hw := fun W h hs => bldWrite_any w.heap.size w.heap.size (lampN gs k) 71 W h hlen hs 71 rfl
      rw [hg] at hc
      clear hg
      generalize yel gs k = y at *
      go_wp2_with fail
      refine (hw _ hF hz).mono ?_
      rintro e w2 ⟨rfl, hF2, v2⟩
      have hB2 := hB.trans v2
      clear hw hF hB v2
      go_wp2_with fail
      go_roundw
      case rel => exact ⟨k + 1, by omega, by go_num, by rw [Hy.out]; rfl, by rw [Hsu.out, Hl.out]; exact hF2, hB2⟩
      case measure => simp [intOf]; omega
    | false =>
      rw [hg] at hc
      have Hy := Lib.hid (yel_off hg)
      by_cases hyp : 0 < yel gs k
      · have Hl := Lib.hid (lampAt_yel hg hyp)
        have hw := fun W h hs => bldWrite_any w.heap.size w.heap.size (lampN gs k) 89 W h hlen hs 89 rfl
        have Hc := Lib.hid (show ((yel gs (k + 1) : Nat) : Int) = (yel gs k : Int) - 1 by rw [Hy.out]; omega)
        have hyp2 : (0 : Int) < (yel gs k : Int) := by omega
        clear hg hyp
        generalize yel gs k = y at *
        go_wp2_with fail
        refine (hw _ hF hz).mono ?_
        rintro e w2 ⟨rfl, hF2, v2⟩
        have hB2 := hB.trans v2
        clear hw hF hB v2
        go_wp2_with fail
        go_roundw
        case rel => exact ⟨k + 1, by omega, by go_num, by rw [Hc.out], by rw [Hsu.out, Hl.out]; exact hF2, hB2⟩
        case measure => simp [intOf]; omega
      · have hy0 : yel gs k = 0 := by omega
        have Hc := Lib.hid (show ((yel gs (k + 1) : Nat) : Int) = 0 by rw [Hy.out, hy0]; rfl)
        cases hn1 : gb gs (k + 1) with
        | true =>
          have Hl := Lib.hid (lampAt_a hg hyp hn1)
          have hlt1 : k + 1 < gs.length := by
            rcases Nat.lt_or_ge (k + 1) gs.length with h | h
            · exact h
            · rw [gb_out h] at hn1; cases hn1
          obtain ⟨b', o', e', hc1⟩ := (hr.below hB).at hlt1
          obtain ⟨rfl, rfl⟩ : b = b' ∧ o = o' := by simpa using e'
          rw [gb_at hlt1, hn1] at hc1
          simp only [fB] at hc1
          have hw := fun W h hs => bldWrite_any w.heap.size w.heap.size (lampN gs k) 65 W h hlen hs 65 rfl
          have hlt1' : (k : Int) + 1 < (gs.length : Int) := by omega
          rw [hy0]
          clear hg hyp hy0 hn1 e' hy3 Hy
          have h00 : ((0 : Nat) : Int) = 0 := rfl
          simp only [h00]
          go_wp2_with fail
          refine (hw _ hF hz).mono ?_
          rintro e w2 ⟨rfl, hF2, v2⟩
          have hB2 := hB.trans v2
          clear hw hF hB v2
          go_wp2_with fail
          go_roundw
          case rel => exact ⟨k + 1, by omega, by go_num, by rw [Hc.out], by rw [Hsu.out, Hl.out]; exact hF2, hB2⟩
          case measure => simp [intOf]; omega
        | false =>
          have Hl := Lib.hid (lampAt_r hg hyp hn1)
          have hw := fun W h hs => bldWrite_any w.heap.size w.heap.size (lampN gs k) 82 W h hlen hs 82 rfl
          rw [hy0]
          have h00 : ((0 : Nat) : Int) = 0 := rfl
          simp only [h00]
          by_cases hlt1 : k + 1 < gs.length
          · obtain ⟨b', o', e', hc1⟩ := (hr.below hB).at hlt1
            obtain ⟨rfl, rfl⟩ : b = b' ∧ o = o' := by simpa using e'
            rw [gb_at hlt1, hn1] at hc1
            simp only [fB] at hc1
            have hlt1' : (k : Int) + 1 < (gs.length : Int) := by omega
            clear hg hyp hy0 hn1 e' hy3 Hy
            go_wp2_with fail
            refine (hw _ hF hz).mono ?_
            rintro e w2 ⟨rfl, hF2, v2⟩
            have hB2 := hB.trans v2
            clear hw hF hB v2
            go_wp2_with fail
            go_roundw
            case rel => exact ⟨k + 1, by omega, by go_num, by rw [Hc.out], by rw [Hsu.out, Hl.out]; exact hF2, hB2⟩
            case measure => simp [intOf]; omega
          · have hlt1' : ¬ (k : Int) + 1 < (gs.length : Int) := by omega
            clear hg hyp hy0 hn1 hy3 Hy
            go_wp2_with fail
            refine (hw _ hF hz).mono ?_
            rintro e w2 ⟨rfl, hF2, v2⟩
            have hB2 := hB.trans v2
            clear hw hF hB v2
            go_wp2_with fail
            go_roundw
            case rel => exact ⟨k + 1, by omega, by go_num, by rw [Hc.out], by rw [Hsu.out, Hl.out]; exact hF2, hB2⟩
            case measure => simp [intOf]; omega

set_option maxHeartbeats 1600000 in
theorem sLamps_any (gs : List Bool) (A : Option Addr) (c : Nat) (w : World) (hr : RdL fB w A gs) (hn : gs.length ≤ 1000000) :
    Calls Try.prog 15 #[.slice A gs.length c] w fun e w' => e = .returned (strL (lampF gs)) ∧ Below w.heap.size w w' := by
  obtain ⟨i0, hi0, hz0, hz1, hz2⟩ := info_parts info_U8
  have hB := (Below.refl w.heap.size w).alloc (Nat.le_refl _) (.cells #[] 5)
  have h0 := (OwnL.of_cap (lo := w.heap.size) fU (Blk.new w 5 #[]) (Nat.le_refl _) rfl (by simp [maxLen])).o
  by_cases h2 : 200 < gs.length
  · have H := Lib.hid (show lampF gs = [] by simp [lampF]; omega)
    clear h0
    go_enter Try.func15, Try.ntmps15
    go_wp2_with fail
    go_ret
    rw [H.out]
    exact ⟨rfl, hB⟩
  have H := Lib.hid (lampF_eq (gs := gs) (by omega))
  go_enter Try.func15, Try.ntmps15
  go_wp2_with fail
  go_loopw [3, 4, 5] (fun v3 v4 vi wr => ∃ k : Nat, k ≤ gs.length ∧ vi = .int .i64 k ∧ v4 = .int .i64 (3 - (yel gs k : Int)) ∧ (∃ A1 c1 ys, v3 = .slice A1 ys.length c1 ∧ OwnO fU wr w.heap.size 5 A1 c1 ys ∧ Hid (ys = lampN gs k)) ∧ Below w.heap.size w wr) (fun _ _ vi _ => gs.length - (intOf vi).toNat)
  case atStart => exact ⟨0, Nat.zero_le _, rfl, rfl, ⟨_, _, [], rfl, h0, Lib.hid rfl⟩, hB⟩
  case round =>
    clear h0 hB
    obtain ⟨k, hk, rfl, rfl, ⟨A1, c1, ys, rfl, ho, hys⟩, hB⟩ := hrel
    have hz := hB.size
    have hal := ho.lt
    have hlen : ys.length ≤ 1000000 := by rw [hys.out, lampN_length]; omega
    by_cases hlt : k < gs.length
    case neg =>
      obtain rfl : k = gs.length := by omega
      have hcv := conv_rd ys A1 c1 wr ho.rd
      have hst := Lib.hid (show strL ys = strL (lampF gs) by rw [H.out, hys.out])
      go_wp2_with fail
      go_ret
      exact ⟨by rw [← hst.out]; rfl, hB⟩
    obtain ⟨b, o, rfl, hc⟩ := (hr.below hB).at hlt
    rw [gb_at hlt] at hc
    simp only [fB] at hc
    have hy3 := yel_bd gs k
    have Hsu := Lib.hid (lampN_succ gs k)
    cases hg : gb gs k with
    | true =>
      have Hl := Lib.hid (lampAt_on hg)
      have Hy := Lib.hid (yel_on hg)
      rw [hg] at hc
      clear hg
      generalize yel gs k = y at *
      go_wp2_with (at_builtin; go_must (refine wpList_pushO rfl (.tmp 24) (.tmp 25) 22 rfl i0 _ 1 Try.underlying22 hi0 hz0 hz1 hz2 rfl rfl (ho.alloc (.cells #[.int .u8 71] 5)) wr.heap.size 71 rfl (cell_new _ _ _) rfl (by omega) (by omega) (by simp; omega) ?_); intro A3 c3 w3 ho3 hg3 hb3)
      have hB3 := below_push hz hB hal hg3
      go_roundw
      case rel => exact ⟨k + 1, by omega, by go_num, by rw [Hy.out]; rfl, ⟨A3, c3, ys ++ [_], by simp, ho3, Lib.hid (by rw [Hsu.out, hys.out, Hl.out])⟩, hB3⟩
      case measure => simp [intOf]; omega
    | false =>
      rw [hg] at hc
      have Hy := Lib.hid (yel_off hg)
      by_cases hyp : 0 < yel gs k
      · have Hl := Lib.hid (lampAt_yel hg hyp)
        have Hc := Lib.hid (show 3 - ((yel gs (k + 1) : Nat) : Int) = 3 - (yel gs k : Int) + 1 by rw [Hy.out]; omega)
        have hyp2 : (3 : Int) - (yel gs k : Int) < 3 := by omega
        clear hg hyp
        generalize yel gs k = y at *
        go_wp2_with (at_builtin; go_must (refine wpList_pushO rfl (.tmp 30) (.tmp 31) 22 rfl i0 _ 1 Try.underlying22 hi0 hz0 hz1 hz2 rfl rfl (ho.alloc (.cells #[.int .u8 89] 5)) wr.heap.size 89 rfl (cell_new _ _ _) rfl (by omega) (by omega) (by simp; omega) ?_); intro A3 c3 w3 ho3 hg3 hb3)
        have hB3 := below_push hz hB hal hg3
        go_roundw
        case rel => exact ⟨k + 1, by omega, by go_num, by rw [Hc.out], ⟨A3, c3, ys ++ [_], by simp, ho3, Lib.hid (by rw [Hsu.out, hys.out, Hl.out])⟩, hB3⟩
        case measure => simp [intOf]; omega
      · have hy0 : yel gs k = 0 := by omega
        have Hc := Lib.hid (show 3 - ((yel gs (k + 1) : Nat) : Int) = 3 by rw [Hy.out, hy0]; rfl)
        have h00 : (3 : Int) - ((0 : Nat) : Int) = 3 := rfl
        cases hn1 : gb gs (k + 1) with
        | true =>
          have Hl := Lib.hid (lampAt_a hg hyp hn1)
          have hlt1 : k + 1 < gs.length := by
            rcases Nat.lt_or_ge (k + 1) gs.length with h | h
            · exact h
            · rw [gb_out h] at hn1; cases hn1
          obtain ⟨b', o', e', hc1⟩ := (hr.below hB).at hlt1
          obtain ⟨rfl, rfl⟩ : b = b' ∧ o = o' := by simpa using e'
          rw [gb_at hlt1, hn1] at hc1
          simp only [fB] at hc1
          have hlt1' : (k : Int) + 1 < (gs.length : Int) := by omega
          rw [hy0]
          clear hg hyp hy0 hn1 e' hy3 Hy
          simp only [h00]
          go_wp2_with (at_builtin; go_must (refine wpList_pushO rfl (.tmp 48) (.tmp 49) 22 rfl i0 _ 1 Try.underlying22 hi0 hz0 hz1 hz2 rfl rfl (ho.alloc (.cells #[.int .u8 65] 5)) wr.heap.size 65 rfl (cell_new _ _ _) rfl (by omega) (by omega) (by simp; omega) ?_); intro A3 c3 w3 ho3 hg3 hb3)
          have hB3 := below_push hz hB hal hg3
          go_roundw
          case rel => exact ⟨k + 1, by omega, by go_num, by rw [Hc.out], ⟨A3, c3, ys ++ [_], by simp, ho3, Lib.hid (by rw [Hsu.out, hys.out, Hl.out])⟩, hB3⟩
          case measure => simp [intOf]; omega
        | false =>
          have Hl := Lib.hid (lampAt_r hg hyp hn1)
          rw [hy0]
          simp only [h00]
          by_cases hlt1 : k + 1 < gs.length
          · obtain ⟨b', o', e', hc1⟩ := (hr.below hB).at hlt1
            obtain ⟨rfl, rfl⟩ : b = b' ∧ o = o' := by simpa using e'
            rw [gb_at hlt1, hn1] at hc1
            simp only [fB] at hc1
            have hlt1' : (k : Int) + 1 < (gs.length : Int) := by omega
            clear hg hyp hy0 hn1 e' hy3 Hy
            go_wp2_with (at_builtin; go_must (refine wpList_pushO rfl (.tmp 16) (.tmp 17) 22 rfl i0 _ 1 Try.underlying22 hi0 hz0 hz1 hz2 rfl rfl (ho.alloc (.cells #[.int .u8 82] 5)) wr.heap.size 82 rfl (cell_new _ _ _) rfl (by omega) (by omega) (by simp; omega) ?_); intro A3 c3 w3 ho3 hg3 hb3)
            have hB3 := below_push hz hB hal hg3
            go_roundw
            case rel => exact ⟨k + 1, by omega, by go_num, by rw [Hc.out], ⟨A3, c3, ys ++ [_], by simp, ho3, Lib.hid (by rw [Hsu.out, hys.out, Hl.out])⟩, hB3⟩
            case measure => simp [intOf]; omega
          · have hlt1' : ¬ (k : Int) + 1 < (gs.length : Int) := by omega
            clear hg hyp hy0 hn1 hy3 Hy
            go_wp2_with (at_builtin; go_must (refine wpList_pushO rfl (.tmp 16) (.tmp 17) 22 rfl i0 _ 1 Try.underlying22 hi0 hz0 hz1 hz2 rfl rfl (ho.alloc (.cells #[.int .u8 82] 5)) wr.heap.size 82 rfl (cell_new _ _ _) rfl (by omega) (by omega) (by simp; omega) ?_); intro A3 c3 w3 ho3 hg3 hb3)
            have hB3 := below_push hz hB hal hg3
            go_roundw
            case rel => exact ⟨k + 1, by omega, by go_num, by rw [Hc.out], ⟨A3, c3, ys ++ [_], by simp, ho3, Lib.hid (by rw [Hsu.out, hys.out, Hl.out])⟩, hB3⟩
            case measure => simp [intOf]; omega
end Go.Proofs.Ytcgcjjpkcaljgaa
