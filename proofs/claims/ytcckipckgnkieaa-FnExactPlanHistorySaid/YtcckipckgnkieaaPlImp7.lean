/-
  The history of a plan, as the program finds it.
-/
import Derived.Test.YtcckipckgnkieaaPlImp6
import Derived.Test.YtcckipckgnkieaaClone
import Derived.Test.YtcckipckgnkieaaPlGuard2
import Derived.Test.YtcckipckgnkieaaPlHist
namespace Go.Proofs.Ytcckipckgnkieaa
open Go.RowKit
set_option linter.unusedVariables false

theorem grnAt_no {p : Pl} {s : Int} (h : (validP p && inB s 0 9999) = false) : grnAt p s = [] := by
  unfold grnAt
  rw [if_neg (by rw [h]; decide)]
theorem grnAt_yes {p : Pl} {s : Int} (hg : GoodP p) (h : 0 ≤ s ∧ s ≤ 9999) : grnAt p s = grnP p (s % cyc p) := by
  unfold grnAt
  rw [if_pos (by rw [show validP p = true from dec_iff.mpr hg, inB_iff.mpr h]; rfl)]
theorem grnAt_len (p : Pl) (s : Int) : (grnAt p s).length ≤ 8 := by
  unfold grnAt
  split
  · rename_i h
    simp only [Bool.and_eq_true] at h
    have hg := dec_iff.mp h.1
    exact grnP_len hg (mod_cyc hg s).1 (mod_cyc hg s).2
  · simp

set_option maxRecDepth 100000 in
set_option maxHeartbeats 1600000 in
theorem iGrnAt_any (p : Pl) (s : Int) (T S : Option Addr) (c d : Nat) (w : World) (hr : RdP w T S p) (hs : SmP p 1000000000) (hsd : p.sg.length ≤ d) :
    Calls Try.prog 16 #[plV p T c S d, .int .i64 s] w (NewS fI 3 w (grnAt p s)) := by
  obtain ⟨hB, hb0, hb1, hlt⟩ := boxP_at w p T c S d
  have Hs := Lib.hid hs
  have Hr := Lib.hid hr
  have hzW := hB.size
  have Hsd := Lib.hid hsd
  clear hs hr hsd
  go_enter Try.func16, Try.ntmps16
  go_wp2_with fail
  generalize w.alloc (.cells (plC p T c S d) 26) = W at *
  have hnil : ∀ w', Below w.heap.size w w' → grnAt p s = [] → NewS fI 3 w (grnAt p s) (.returned (.slice none 0 0)) w' := fun w' hb e => by
    rw [e]
    exact ⟨none, 0, rfl, OwnO.nil _ _ _ _, hb⟩
  cases hv : validP p with
  | false =>
    have H := Lib.hid (fun w' hb => hnil w' hb (grnAt_no (by rw [hv]; rfl)))
    clear hnil
    refine (iValP_v p false hv T S c d _ (Hr.out.below hB) Hs.out).mono ?_
    rintro e w1 ⟨rfl, v1⟩
    clear hv
    go_wp2_with fail
    go_ret
    exact H.out _ (hB.trans (v1.mono hzW))
  | true =>
    have Hg := Lib.hid (dec_iff.mp hv)
    refine (iValP_v p true hv T S c d _ (Hr.out.below hB) Hs.out).mono ?_
    rintro e w1 ⟨rfl, v1⟩
    clear hv
    cases hin : inB s 0 9999 with
    | false =>
      have H := Lib.hid (fun w' hb => hnil w' hb (grnAt_no (by rw [hin]; simp)))
      have hct : Calls Try.prog 42 #[.int .i64 s, .int .i64 0, .int .i64 9999] w1 fun e w' => e = .returned (.bool false) ∧ w1 = w' := hin ▸ within_any s 0 9999 w1
      clear hnil hin
      go_wp2_with fail
      refine hct.mono ?_
      rintro e w2 ⟨rfl, rfl⟩
      go_wp2_with fail
      go_ret
      exact H.out _ (hB.trans (v1.mono hzW))
    | true =>
      have hsb := inB_iff.mp hin
      have hct : Calls Try.prog 42 #[.int .i64 s, .int .i64 0, .int .i64 9999] w1 fun e w' => e = .returned (.bool true) ∧ w1 = w' := hin ▸ within_any s 0 9999 w1
      have Ho := Lib.hid (grnAt_yes Hg.out hsb)
      have hcy := cyc_bd Hg.out
      obtain ⟨cy, hcye⟩ : ∃ cy, cy = cyc p := ⟨_, rfl⟩
      rw [← hcye] at hcy
      have hcc := fun y (hy : Below w.heap.size w y) => iCyc_v p cy hcye.symm T S c d y (Hr.out.below hy) Hg.out Hsd.out
      have hmd := Lib.hid (mod_cyc Hg.out s)
      have Hgt := Lib.hid (fun y (hy : Below w.heap.size w y) => iGrnI_any p (s % cyc p) T S c d y (Hr.out.below hy) Hg.out Hsd.out hmd.out.1 hmd.out.2)
      have hgl := grnP_len Hg.out hmd.out.1 hmd.out.2
      rw [← hcye] at Hgt hgl Ho
      have hn0 : ¬ cy = 0 := by omega
      have htm : s.tmod cy = s % cy := Int.tmod_eq_emod_of_nonneg (by omega)
      generalize s % cy = u at *
      have hcl := fun A c' y (hr : RdL fI y A (grnP p u)) => cloneI_any (grnP p u) A c' y hr (by omega)
      generalize grnP p u = xs at *
      clear hnil hcye hin
      go_wp2_with fail
      refine hct.mono ?_
      rintro e w2 ⟨rfl, rfl⟩
      clear hct
      obtain ⟨S0, hS⟩ : ∃ S0 : World → Prop, S0 = fun y => y.cell? ⟨w.heap.size, 0, none⟩ = some (.slice T p.tb.length c) ∧ y.cell? ⟨w.heap.size, 1, none⟩ = some (.slice S p.sg.length d) := ⟨_, rfl⟩
      have hS1 : ∀ y, S0 y → y.cell? ⟨w.heap.size, 0, none⟩ = some (.slice T p.tb.length c) := fun y h => by rw [hS] at h; exact h.1
      have hS2 : ∀ y, S0 y → y.cell? ⟨w.heap.size, 1, none⟩ = some (.slice S p.sg.length d) := fun y h => by rw [hS] at h; exact h.2
      have k0 : ∀ y : Held S0, y.x.cell? ⟨w.heap.size, 0, none⟩ = some (.slice T p.tb.length c) := fun y => hS1 y.x y.h
      have k1 : ∀ y : Held S0, y.x.cell? ⟨w.heap.size, 1, none⟩ = some (.slice S p.sg.length d) := fun y => hS2 y.x y.h
      have hS3 : ∀ y, Below W.heap.size W y → S0 y := fun y hy => by
        rw [hS]
        exact ⟨(hy.cell (World.block_lt_of_cell? W _ hb0)).trans hb0, (hy.cell (World.block_lt_of_cell? W _ hb1)).trans hb1⟩
      have HS3 := Lib.hid hS3
      clear hS hS1 hS2 hS3
      go_wp2_with fail
      refine wp_region_mix S0 [(0, 0), (0, 1), (0, 2), (1, 3), (0, 4), (1, 5), (1, 6), (0, 7)] [] (by kernel_rfl) (by kernel_rfl) (HS3.out _ v1.drew) ?_
      intro hne1
      simp only [mixOps, List.filterMap_cons, List.filterMap_nil, List.getElem?_toArray, List.getElem?_cons_zero, List.getElem?_cons_succ, Option.map_some]
      have hW := v1.drew
      generalize w1.drew = wd at *
      repeat (refine mix_early (fun K hK => ?_); go_simp; refine hK _ ?_; clear hK K)
      refine mix_late rfl (fun K hK => ?_)
      go_wp2_with fail
      refine (hcc wd (hB.trans (hW.mono hzW))).mono ?_
      rintro e w5 ⟨rfl, v5⟩
      have W5 := hW.trans (v5.mono hW.size)
      clear v5 hW hcc
      go_wp2_with fail
      refine ⟨HS3.out _ W5, ?_⟩
      repeat (refine mix_early (fun K hK => ?_); go_simp; refine hK _ ?_; clear hK K)
      refine mix_late rfl (fun K hK => ?_)
      go_wp2_with fail
      refine (Hgt.out w5 (hB.trans (W5.mono hzW))).mono ?_
      rintro e w6 ⟨⟨A, c6, rfl, hA⟩, v6⟩
      have W6 := W5.trans (v6.mono W5.size)
      clear v6 W5 Hgt
      go_wp2_with fail
      refine ⟨HS3.out _ W6, ?_⟩
      refine mix_late rfl (fun K hK => ?_)
      go_wp2_with fail
      refine (hcl A c6 w6 hA).mono ?_
      rintro e w7 ⟨A7, c7, rfl, ho7, v7⟩
      have W7 := W6.trans (v7.mono W6.size)
      have hz6 := (hB.trans (W6.mono hzW)).size
      clear v7 hcl hA
      go_wp2_with fail
      refine ⟨HS3.out _ W7, ?_⟩
      repeat (refine mix_early (fun K hK => ?_); go_simp; refine hK _ ?_; clear hK K)
      refine mix_nil ?_
      simp only [tailT, List.filterMap_nil]
      refine wpLateC_nil (NoPanic.normal ?_)
      clear k0 k1 hne1
      go_wp2_with fail
      go_ret
      exact ⟨A7, c7, by rw [Ho.out]; rfl, by rw [Ho.out]; exact ho7.mono hz6, hB.trans (W7.mono hzW)⟩

set_option maxHeartbeats 800000 in
theorem iSpan_v (f n : Int) (v : Bool) (hv : spanB f n = v) (w : World) :
    Calls Try.prog 37 #[.int .i64 f, .int .i64 n] w fun e w' => e = .returned (.bool v) ∧ w = w' := by
  have Hv := Lib.hid hv
  clear hv
  go_enter Try.func37, Try.ntmps37
  go_wp2_with fail
  cases h1 : inB n 0 150 with
  | false =>
    have hct : Calls Try.prog 42 #[.int .i64 n, .int .i64 0, .int .i64 150] w fun e w' => e = .returned (.bool false) ∧ w = w' := h1 ▸ within_any n 0 150 w
    have H := Lib.hid (show false = v by rw [← Hv.out, spanB, h1]; rfl)
    refine hct.mono ?_
    rintro e w2 ⟨rfl, rfl⟩
    clear h1 hct
    go_wp2_with fail
    go_ret
    exact ⟨ret_bool H.out, rfl⟩
  | true =>
    have hnb := inB_iff.mp h1
    have hct : Calls Try.prog 42 #[.int .i64 n, .int .i64 0, .int .i64 150] w fun e w' => e = .returned (.bool true) ∧ w = w' := h1 ▸ within_any n 0 150 w
    refine hct.mono ?_
    rintro e w2 ⟨rfl, rfl⟩
    have hsp := Lib.hid (show spanB f n = true ↔ n = 0 ∨ 0 ≤ f ∧ f ≤ 10000 - n by rw [span_iff]; omega)
    clear h1 hct
    by_cases hn0 : n = 0
    · subst hn0
      have H := Lib.hid (show true = v by rw [← Hv.out]; exact (hsp.out.mpr (.inl rfl)).symm)
      go_wp2_with fail
      go_ret
      exact ⟨ret_bool H.out, rfl⟩
    have hb0 : (n == 0) = false := beq_eq_false_iff_ne.mpr hn0
    by_cases hf0 : 0 ≤ f
    · by_cases hf1 : f ≤ 10000 - n
      · have H := Lib.hid (show true = v by rw [← Hv.out]; exact (hsp.out.mpr (.inr ⟨hf0, hf1⟩)).symm)
        have hd : decide (f ≤ 10000 - n) = true := decide_eq_true hf1
        clear hn0 hf1
        go_wp2_with fail
        go_ret
        exact ⟨ret_bool (by first | exact H.out | simpa using H.out | (rw [hd]; exact H.out)), rfl⟩
      · have H := Lib.hid (show false = v by
          rw [← Hv.out]
          cases h : spanB f n with
          | false => rfl
          | true => have := hsp.out.mp h; omega)
        have hd : decide (f ≤ 10000 - n) = false := decide_eq_false hf1
        have hf2 : 10000 - n < f := by omega
        clear hn0 hf1
        go_wp2_with fail
        go_ret
        exact ⟨ret_bool (by first | exact H.out | simpa using H.out | (rw [hd]; exact H.out)), rfl⟩
    · have H := Lib.hid (show false = v by
        rw [← Hv.out]
        cases h : spanB f n with
        | false => rfl
        | true => have := hsp.out.mp h; omega)
      have hf2 : f < 0 := by omega
      clear hn0 hf0
      go_wp2_with fail
      go_ret
      exact ⟨ret_bool (by first | exact H.out | simpa using H.out), rfl⟩
end Go.Proofs.Ytcckipckgnkieaa
