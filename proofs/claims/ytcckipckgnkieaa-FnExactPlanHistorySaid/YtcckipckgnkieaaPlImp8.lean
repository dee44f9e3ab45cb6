/-
  The history of a plan, as the program finds it.
-/
import Derived.Test.YtcckipckgnkieaaPlImp7
namespace Go.Proofs.Ytcckipckgnkieaa
open Go.RowKit
set_option linter.unusedVariables false

set_option maxRecDepth 100000 in
set_option maxHeartbeats 1600000 in
theorem iHist_any (p : Pl) (f n : Int) (T S : Option Addr) (c d : Nat) (w : World) (hr : RdP w T S p) (hs : SmP p 1000000000) (hsd : p.sg.length ≤ d) :
    Calls Try.prog 12 #[plV p T c S d, .int .i64 f, .int .i64 n] w (NewG fI 32 3 w (planF p f n)) := by
  obtain ⟨i0, hi0, hz0, hz1, hz2⟩ := info_parts info_S1I
  obtain ⟨hB, hb0, hb1, hlt⟩ := boxP_at w p T c S d
  have Hs := Lib.hid hs
  have Hr := Lib.hid hr
  have Hsd := Lib.hid hsd
  have hzW := hB.size
  clear hs hr hsd
  go_enter Try.func12, Try.ntmps12
  go_wp2_with fail
  generalize w.alloc (.cells (plC p T c S d) 26) = W0 at *
  have hnil : ∀ w', Below w.heap.size w w' → (validP p && spanB f n) = false → NewG fI 32 3 w (planF p f n) (.returned (.slice none 0 0)) w' := fun w' hb h => by
    rw [planF_no h]
    exact ⟨none, 0, rfl, OwnG.nil _ _ _ _ _ _, hb⟩
  cases hv : validP p with
  | false =>
    have H := Lib.hid (fun w' hb => hnil w' hb (by rw [hv]; rfl))
    clear hnil
    refine (iValP_v p false hv T S c d _ (Hr.out.below hB) Hs.out).mono ?_
    rintro e w1 ⟨rfl, v1⟩
    clear hv
    go_wp2_with fail
    go_ret
    exact H.out _ (hB.trans (v1.mono hzW))
  | true =>
    have Hg := Lib.hid (dec_iff.mp hv)
    refine (iValP_v p true hv T S c d _ (Hr.out.below hB) Hs.out).mono ?_
    rintro e w1 ⟨rfl, v1⟩
    have c0 := (v1.cell (World.block_lt_of_cell? W0 _ hb0)).trans hb0
    have hz1' := v1.size
    clear hv
    cases hsp : spanB f n with
    | false =>
      have H := Lib.hid (fun w' hb => hnil w' hb (by rw [hsp]; simp))
      have hct := iSpan_v f n false hsp w1
      clear hnil hsp
      go_wp2_with fail
      refine hct.mono ?_
      rintro e w2 ⟨rfl, rfl⟩
      go_wp2_with fail
      go_ret
      exact H.out _ (hB.trans (v1.mono hzW))
    | true =>
      have hsb := span_iff.mp hsp
      have hct := iSpan_v f n true hsp w1
      have H := Lib.hid (show planF p f n = planL p f n.toNat from planF_yes (by
        rw [show validP p = true from dec_iff.mpr Hg.out, hsp]; rfl))
      obtain ⟨m, rfl⟩ := Int.eq_ofNat_of_zero_le hsb.1.1
      have hm150 : m ≤ 150 := by omega
      have hfm : 0 < m → 0 ≤ f ∧ f + (m : Int) ≤ 10000 := by omega
      have hmk : ∀ W, (Instr.makeSlice 23 (.int .i64 0) (.int .i64 (m : Int))).run Try.prog W = .ok (.slice (some ⟨W.heap.size, 0, none⟩) 0 m) (W.alloc (.cells (List.replicate m (Value.slice none 0 0)).toArray 32)) := fun W =>
        run_make_n (P := Try.prog) 23 32 i0 (Value.slice none 0 0) Try.underlying23 hi0 hz0 (by omega) rfl .i64 .i64 0 m (Nat.zero_le _) (by omega) (by omega) W
      have bA := Blk.new w1 32 (Array.replicate m (Value.slice none 0 0))
      have hO1 := (OwnL.of_cap (lo := W0.heap.size) fS bA hz1' (by simp) (by simp [maxLen]; omega) : OwnL fS _ _ _ _ m []).o
      have hB1 := v1.alloc hz1' (.cells (Array.replicate m (Value.slice none 0 0)) 32)
      clear hnil hsp bA hsb c0
      go_wp2_with fail
      refine hct.mono ?_
      rintro e w2 ⟨rfl, rfl⟩
      clear hct
      go_wp2_with fail
      have hR0 := RowsG.nil fI 3 (w1.alloc (.cells (Array.replicate m (Value.slice none 0 0)) 32)) W0.heap.size (w1.alloc (.cells (Array.replicate m (Value.slice none 0 0)) 32)).heap.size
      generalize w1.alloc (.cells (Array.replicate m (Value.slice none 0 0)) 32) = W1 at *
      go_loopw [7, 21] (fun v7 vi wr => ∃ k : Nat, k ≤ m ∧ vi = .int .i64 k ∧ (∃ D d2 ps, v7 = .slice D (ps : List (Option Addr × Nat × Nat)).length d2 ∧ OwnO fS wr W0.heap.size 32 D d2 ps ∧ RowsG fI 3 wr W0.heap.size wr.heap.size ps (planL p f k)) ∧ Below W0.heap.size W0 wr) (fun _ vi _ => m - (intOf vi).toNat)
      case atStart => exact ⟨0, Nat.zero_le _, rfl, ⟨_, _, [], rfl, hO1, hR0⟩, hB1⟩
      case round =>
        clear hO1 hR0 hB1 hmk
        obtain ⟨k, hk, rfl, ⟨D, d2, ps, rfl, hO, hR⟩, hW⟩ := hrel
        have hpl := Lib.hid (show ps.length = k by rw [hR.1, planL_length])
        have hp8 : ps.length ≤ 1000 := by rw [hpl.out]; omega
        have hzw := hW.size
        by_cases hltk : k < m
        · have Hsucc := Lib.hid (planL_succ p f k)
          have hfb := hfm (by omega)
          have c0 := (hW.cell (World.block_lt_of_cell? W0 _ hb0)).trans hb0
          have c1' := (hW.cell (World.block_lt_of_cell? W0 _ hb1)).trans hb1
          have hgt := iGrnAt_any p (f + (k : Int)) T S c d wr (Hr.out.below (hB.trans (hW.mono hzW))) Hs.out Hsd.out
          have hgl := grnAt_len p (f + (k : Int))
          rw [grnAt_yes Hg.out (by omega)] at hgt hgl
          generalize grnP p ((f + (k : Int)) % cyc p) = xs at *
          go_wp2_with fail
          refine hgt.mono ?_
          rintro e w5 ⟨A5, c5, rfl, ho5, v5⟩
          have hO5 := hO.below v5
          have hW5 := hW.trans (v5.mono hzw)
          have hz5 := hW5.size
          have hOl := hO5.lt
          clear hgt c0 c1'
          go_wp2_with (at_builtin; go_must (refine wpList_pushO rfl (.tmp 24) (.tmp 30) 23 rfl i0 _ 24 Try.underlying23 hi0 hz0 hz1 hz2 rfl rfl (hO5.alloc (.cells #[.slice A5 xs.length c5] 32)) w5.heap.size (A5, xs.length, c5) rfl (cell_new _ _ _) rfl (by omega) (by omega) (by simp; omega) ?_); intro C3 d3 w6 hO6 hg6 hb6)
          have hR6 := rows_push (by decide) hO hR v5 ho5 hzw _ hg6
          have hW6 := below_push hz5 hW5 hOl hg6
          go_roundw
          case rel => exact ⟨k + 1, by omega, by go_num, ⟨C3, d3, ps ++ [(A5, xs.length, c5)], by simp, hO6, by rw [Hsucc.out]; exact hR6⟩, hW6⟩
          case measure => simp [intOf]; omega
        · obtain rfl : k = m := by omega
          have Hl := Lib.hid (show ps.length = (planF p f k).length by rw [H.out, Int.toNat_natCast, planL_length, hpl.out])
          have hfin : OwnG fI 32 3 wr w.heap.size wr.heap.size D d2 (planF p f k) := by
            rw [H.out, Int.toNat_natCast]
            exact OwnG.mono ⟨ps, hO, fun b hb => (hO.lt b hb).2, hR⟩ hzW
          have Hf := Lib.hid hfin
          clear hfin
          go_wp2_with fail
          go_ret
          exact ⟨D, d2, by rw [← Hl.out]; rfl, Hf.out, hB.trans (hW.mono hzW)⟩
end Go.Proofs.Ytcckipckgnkieaa
