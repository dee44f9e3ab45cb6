/-
  The history of a plan, as the reference finds it.
-/
import Derived.Test.YtcckipckgnkieaaPlGreen
import Derived.Test.YtcckipckgnkieaaPlFits
import Derived.Test.YtcckipckgnkieaaPlGuard2
import Derived.Test.YtcckipckgnkieaaRegP
namespace Go.Proofs.Ytcckipckgnkieaa
open Go.RowKit
set_option linter.unusedVariables false

theorem planL_succ (p : Pl) (f : Int) (n : Nat) : planL p f (n + 1) = planL p f n ++ [grnP p ((f + (n : Int)) % cyc p)] := mapN_succ _ _
theorem planF_no {p : Pl} {f c : Int} (h : (validP p && spanB f c) = false) : planF p f c = [] := by
  unfold planF
  rw [if_neg (by rw [h]; decide)]
theorem planF_yes {p : Pl} {f c : Int} (h : (validP p && spanB f c) = true) : planF p f c = planL p f c.toNat := by
  unfold planF
  rw [if_pos h]
theorem planF_zero {p : Pl} {f : Int} : planF p f 0 = [] := by
  unfold planF
  split <;> rfl
theorem grnP_len {p : Pl} (h : GoodP p) {s : Int} (h0 : 0 ≤ s) (h1 : s < cyc p) : (grnP p s).length ≤ 8 := by
  have := (grnP_good h h0 h1).len
  have := h.c.n2
  omega

set_option maxRecDepth 100000 in
set_option maxHeartbeats 1600000 in
theorem sHist_any (p : Pl) (f n : Int) (T S : Option Addr) (c d : Nat) (w : World) (hr : RdP w T S p) (hs : SmP p 1000000000) :
    Calls Try.prog 14 #[plV p T c S d, .int .i64 f, .int .i64 n] w (NewG fI 32 3 w (planF p f n)) := by
  obtain ⟨i0, hi0, hz0, hz1, hz2⟩ := info_parts info_S1I
  obtain ⟨hB, hb0, hb1, hlt⟩ := boxP_at w p T c S d
  have Hs := Lib.hid hs
  have Hr := Lib.hid hr
  have hzW := hB.size
  have HS := Lib.hid (info_parts info_S1I)
  clear hs hr
  go_enter Try.func14, Try.ntmps14
  go_wp2_with fail
  generalize hgB : w.alloc (.cells (plC p T c S d) 26) = W0 at *
  have hgs : W0.heap.size = w.heap.size + 1 := by rw [← hgB]; simp
  clear hgB
  have h0 := (OwnL.of_cap (lo := W0.heap.size) fS (Blk.new W0 32 #[]) (Nat.le_refl _) rfl (by simp [maxLen])).o
  have hB1 := (Below.refl W0.heap.size W0).alloc (Nat.le_refl _) (.cells #[] 32)
  generalize W0.alloc (.cells #[] 32) = W at *
  have hb0' := (hB1.cell (World.block_lt_of_cell? W0 _ hb0)).trans hb0
  have hb1' := (hB1.cell (World.block_lt_of_cell? W0 _ hb1)).trans hb1
  have hBW := hB.trans (hB1.mono hzW)
  have hzz := hBW.size
  have hnil : ∀ w', Below w.heap.size w w' → (validP p && spanB f n) = false ∨ n = 0 → NewG fI 32 3 w (planF p f n) (.returned (.slice none 0 0)) w' := fun w' hb h => by
    have e : planF p f n = [] := by
      rcases h with h | rfl
      · exact planF_no h
      · exact planF_zero
    rw [e]
    exact ⟨none, 0, rfl, OwnG.nil _ _ _ _ _ _, hb⟩
  have Hnil := Lib.hid hnil
  clear hnil
  cases hv : validP p with
  | false =>
    have H := fun w' hb => Hnil.out w' hb (.inl (by rw [hv]; rfl))
    have HH := Lib.hid H
    clear Hnil H
    refine (sValP_v p false hv T S c d _ (Hr.out.below hBW) Hs.out).mono ?_
    rintro e w1 ⟨rfl, v1⟩
    clear hv
    go_wp2_with fail
    go_ret
    exact HH.out _ (hBW.trans (v1.mono hzz))
  | true =>
    have Hg := Lib.hid (dec_iff.mp hv)
    have hsp := Lib.hid (show spanB f n = false → ∀ w', Below w.heap.size w w' → NewG fI 32 3 w (planF p f n) (.returned (.slice none 0 0)) w' from fun h w' hb => Hnil.out w' hb (.inl (by rw [h]; simp)))
    have hz0' := Lib.hid (show n = 0 → ∀ w', Below w.heap.size w w' → NewG fI 32 3 w (planF p f n) (.returned (.slice none 0 0)) w' from fun h w' hb => Hnil.out w' hb (.inr h))
    clear Hnil
    refine (sValP_v p true hv T S c d _ (Hr.out.below hBW) Hs.out).mono ?_
    rintro e w1 ⟨rfl, v1⟩
    have hB1' := hB1.trans (v1.mono hB1.size)
    have hBw1 := hBW.trans (v1.mono hzz)
    have h1 := h0.below v1
    clear hv v1 h0 hBW hb0' hb1'
    cases hf : inB f 0 9999 with
    | false =>
      have H : ∀ w', Below w.heap.size w w' → NewG fI 32 3 w (planF p f n) (.returned (.slice none 0 0)) w' := by
        by_cases hn : n = 0
        · exact hz0'.out hn
        · refine hsp.out ?_
          cases h : spanB f n with
          | false => rfl
          | true =>
            have h2 := span_iff.mp h
            have h3 : inB f 0 9999 = true := inB_iff.mpr (by omega)
            rw [hf] at h3
            cases h3
      have HH := Lib.hid H
      have hin := inRange_any f 0 9999 w1
      rw [hf] at hin
      clear H hsp hz0' hf
      go_wp2_with fail
      refine hin.mono ?_
      rintro e w2 ⟨rfl, rfl⟩
      go_wp2_with fail
      go_ret
      exact HH.out _ hBw1
    | true =>
      have hfb := inB_iff.mp hf
      have hin := inRange_any f 0 9999 w1
      rw [hf] at hin
      clear hf
      cases hn : inB n 0 150 with
      | false =>
        have H := hsp.out (by
          cases h : spanB f n with
          | false => rfl
          | true =>
            have h2 := span_iff.mp h
            have h3 : inB n 0 150 = true := inB_iff.mpr h2.1
            rw [hn] at h3
            cases h3)
        have HH := Lib.hid H
        have hin2 := inRange_any n 0 150 w1
        rw [hn] at hin2
        clear H hsp hz0' hn
        go_wp2_with fail
        refine hin.mono ?_
        rintro e w2 ⟨rfl, rfl⟩
        go_wp2_with fail
        refine hin2.mono ?_
        rintro e w2 ⟨rfl, rfl⟩
        go_wp2_with fail
        go_ret
        exact HH.out _ hBw1
      | true =>
        have hnb := inB_iff.mp hn
        have hin2 := inRange_any n 0 150 w1
        rw [hn] at hin2
        clear hn
        by_cases hlate : 9999 < f + n - 1
        · have H := hsp.out (by
            cases h : spanB f n with
            | false => rfl
            | true =>
              have h2 := span_iff.mp h
              omega)
          have HH := Lib.hid H
          clear H hsp hz0'
          go_wp2_with fail
          refine hin.mono ?_
          rintro e w2 ⟨rfl, rfl⟩
          go_wp2_with fail
          refine hin2.mono ?_
          rintro e w2 ⟨rfl, rfl⟩
          go_wp2_with fail
          go_ret
          exact HH.out _ hBw1
        have hfit : f + n - 1 ≤ 9999 := by omega
        have H := Lib.hid (show planF p f n = planL p f n.toNat from planF_yes (by
          rw [show validP p = true from dec_iff.mpr Hg.out, span_iff.mpr (by omega)]; rfl))
        have hR0 := RowsG.nil fI 3 w1 W0.heap.size w1.heap.size
        obtain ⟨m, rfl⟩ := Int.eq_ofNat_of_zero_le hnb.1
        have hcy := cyc_bd Hg.out
        clear hsp hz0' hlate
        go_wp2_with fail
        refine hin.mono ?_
        rintro e w2 ⟨rfl, rfl⟩
        go_wp2_with fail
        refine hin2.mono ?_
        rintro e w2 ⟨rfl, rfl⟩
        clear hin hin2 hBw1
        go_wp2_with fail
        go_loopw [7, 8] (fun v7 vi wr => ∃ k : Nat, k ≤ m ∧ vi = .int .i64 k ∧ (∃ D d2 ps, v7 = .slice D (ps : List (Option Addr × Nat × Nat)).length d2 ∧ OwnO fS wr W0.heap.size 32 D d2 ps ∧ RowsG fI 3 wr W0.heap.size wr.heap.size ps (planL p f k)) ∧ Below W0.heap.size W0 wr) (fun _ vi _ => m - (intOf vi).toNat)
        case atStart => exact ⟨0, Nat.zero_le _, rfl, ⟨_, _, [], rfl, by rw [← hgs]; exact h1, hR0⟩, hB1'⟩
        case round =>
          clear h1 hR0 hB1'
          obtain ⟨k, hk, rfl, ⟨D, d2, ps, rfl, hO, hR⟩, hW⟩ := hrel
          have hpl := Lib.hid (show ps.length = k by rw [hR.1, planL_length])
          have hp8 : ps.length ≤ 1000 := by rw [hpl.out]; omega
          have hzw := hW.size
          by_cases hltk : k < m
          · have Hsucc := Lib.hid (planL_succ p f k)
            obtain ⟨S0, hS⟩ : ∃ S0 : World → Prop, S0 = fun y => y.cell? ⟨w.heap.size, 0, none⟩ = some (.slice T p.tb.length c) ∧ y.cell? ⟨w.heap.size, 1, none⟩ = some (.slice S p.sg.length d) := ⟨_, rfl⟩
            have hS1 : ∀ y, S0 y → y.cell? ⟨w.heap.size, 0, none⟩ = some (.slice T p.tb.length c) := fun y h => by rw [hS] at h; exact h.1
            have hS2 : ∀ y, S0 y → y.cell? ⟨w.heap.size, 1, none⟩ = some (.slice S p.sg.length d) := fun y h => by rw [hS] at h; exact h.2
            have k0 : ∀ y : Held S0, y.x.cell? ⟨w.heap.size, 0, none⟩ = some (.slice T p.tb.length c) := fun y => hS1 y.x y.h
            have k1 : ∀ y : Held S0, y.x.cell? ⟨w.heap.size, 1, none⟩ = some (.slice S p.sg.length d) := fun y => hS2 y.x y.h
            have hS3 : ∀ y, Below W0.heap.size W0 y → S0 y := fun y hy => by
              rw [hS]
              exact ⟨(hy.cell (World.block_lt_of_cell? W0 _ hb0)).trans hb0, (hy.cell (World.block_lt_of_cell? W0 _ hb1)).trans hb1⟩
            have HS3 := Lib.hid hS3
            have hw0 : IntKind.i64.wrap (f + (k : Int)) = f + (k : Int) := by simp [IntKind.wrap, IntKind.bits, IntKind.signed]; omega
            obtain ⟨cy, hcye⟩ : ∃ cy, cy = cyc p := ⟨_, rfl⟩
            rw [← hcye] at hcy
            have hct := fun y (hy : Below W0.heap.size W0 y) => sCyc_v p cy hcye.symm T S c d y (Hr.out.below (hB.trans (hy.mono hzW))) Hg.out
            have hmd := Lib.hid (mod_cyc Hg.out (f + (k : Int)))
            have Hgt := Lib.hid (fun y (hy : Below W0.heap.size W0 y) => sGrn_any p ((f + (k : Int)) % cyc p) T S c d y (Hr.out.below (hB.trans (hy.mono hzW))) Hg.out hmd.out.1 hmd.out.2)
            have hgl := grnP_len Hg.out hmd.out.1 hmd.out.2
            rw [← hcye] at Hgt hgl Hsucc
            have hn0 : ¬ cy = 0 := by omega
            have htm : (f + (k : Int)).tmod cy = (f + (k : Int)) % cy := Int.tmod_eq_emod_of_nonneg (by omega)
            generalize (f + (k : Int)) % cy = u at *
            generalize grnP p u = xs at *
            clear hS hS1 hS2 hS3 hcye
            go_wp2_with fail
            refine wp_region_mix S0 [(0, 0), (0, 1), (0, 2), (0, 3), (0, 4), (0, 5), (1, 6), (0, 7), (1, 8), (1, 9), (1, 10), (0, 11)] [] (by kernel_rfl) (by kernel_rfl) (HS3.out _ hW.drew) ?_
            intro hne1
            simp only [mixOps, List.filterMap_cons, List.filterMap_nil, List.getElem?_toArray, List.getElem?_cons_zero, List.getElem?_cons_succ, Option.map_some]
            replace hO := hO.drew
            replace hR : RowsG fI 3 wr.drew W0.heap.size wr.drew.heap.size ps (planL p f k) := hR.below (Below.refl _ _).drew
            replace hW := hW.drew
            generalize wr.drew = wd at *
            repeat (refine mix_early (fun K hK => ?_); go_simp; refine hK _ ?_; clear hK K)
            refine mix_late rfl (fun K hK => ?_)
            go_wp2_with fail
            refine (hct _ hW).mono ?_
            rintro e w5 ⟨rfl, v5⟩
            replace hO := hO.below v5
            replace hR := (hR.below v5).mono v5.size
            replace hW := hW.trans (v5.mono hW.size)
            clear v5 hct
            go_wp2_with fail
            refine ⟨HS3.out _ hW, ?_⟩
            repeat (refine mix_early (fun K hK => ?_); go_simp; refine hK _ ?_; clear hK K)
            have hgt := Hgt.out _ hW
            clear Hgt
            refine mix_late rfl (fun K hK => ?_)
            go_wp2_with fail
            refine hgt.mono ?_
            rintro e w6 ⟨A6, c6, rfl, ho6, v6⟩
            have hO6 := hO.below v6
            have hW6 := hW.trans (v6.mono hW.size)
            have hz6 := hW6.size
            have hOl := hO6.lt
            have hzw5 := hW.size
            clear hgt
            go_wp2_with fail
            refine ⟨HS3.out _ hW6, ?_⟩
            refine mix_late rfl (fun K hK => ?_)
            go_wp2_with fail
            refine ⟨HS3.out _ (hW6.alloc hz6 _), ?_⟩
            refine mix_late rfl (fun K hK => ?_)
            refine op_pushO (.tmp 35) (.tmp 44) 23 rfl i0 _ 24 Try.underlying23 hi0 hz0 hz1 hz2 rfl rfl (hO6.alloc (.cells #[.slice A6 xs.length c6] 32)) w6.heap.size (A6, xs.length, c6) rfl (cell_new _ _ _) rfl (by omega) (by omega) (by simp; omega) ?_
            intro C3 d3 w7 hO7 hg7 hb7
            have hR7 := rows_push (by decide) hO hR v6 ho6 hzw5 _ hg7
            have hW7 := below_push hz6 hW6 hOl hg7
            refine hK _ _ ⟨HS3.out _ hW7, ?_⟩
            clear hK K hR hO hW hO6 hW6 v6 ho6
            repeat (refine mix_early (fun K hK => ?_); go_simp; refine hK _ ?_; clear hK K)
            refine mix_nil ?_
            simp only [tailT, List.filterMap_nil]
            refine wpLateC_nil (NoPanic.normal ?_)
            clear k0 k1 hne1
            go_wp2_with fail
            go_roundw
            case rel => first | exact ⟨k + 1, by omega, by go_num, ⟨C3, d3, ps ++ [(A6, xs.length, c6)], by simp, hO7, by rw [Hsucc.out]; exact hR7⟩, hW7⟩ | ((repeat apply Exists.intro); exact ⟨⟨k + 1, by omega, by go_num, ⟨C3, d3, ps ++ [(A6, xs.length, c6)], by simp, hO7, by rw [Hsucc.out]; exact hR7⟩, hW7⟩, rfl⟩)
            case measure => simp [intOf]; omega
          · obtain rfl : k = m := by omega
            have Hl := Lib.hid (show ps.length = (planF p f k).length by rw [H.out, Int.toNat_natCast, planL_length, hpl.out])
            have hfin : OwnG fI 32 3 wr w.heap.size wr.heap.size D d2 (planF p f k) := by
              rw [H.out, Int.toNat_natCast]
              exact OwnG.mono ⟨ps, hO, fun b hb => (hO.lt b hb).2, hR⟩ hzW
            have Hf := Lib.hid hfin
            clear hfin
            go_wp2_with fail
            go_ret
            exact ⟨D, d2, by rw [← Hl.out]; rfl, Hf.out, hB.trans (hW.mono hzW)⟩
end Go.Proofs.Ytcckipckgnkieaa
