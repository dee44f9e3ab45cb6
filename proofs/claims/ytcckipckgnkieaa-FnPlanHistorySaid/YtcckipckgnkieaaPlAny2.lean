/-
  Generated plans that may be invalid.
-/
import Derived.Test.YtcckipckgnkieaaPlAny
namespace Go.Proofs.Ytcckipckgnkieaa
open Go.RowKit
set_option linter.unusedVariables false

/-- A generated plan. -/
def DrawPP (w : World) (rb N : Nat) (e : Ending) (w' : World) : Prop :=
  ∃ t sg T c S d, e = .returned (plV ⟨t, sg⟩ T c S d) ∧ OwnG fI 32 3 w' w.heap.size w'.heap.size T c t ∧ OwnPl w' w.heap.size S d sg ∧ SmP ⟨t, sg⟩ 9 ∧ sg.length ≤ d ∧ Rdr w' rb N ∧ w.grownBy w' (some rb)
theorem SmP.of {t : List (List Int)} {sg : List (List Int × Int)} (h : Sm8 t) (h5 : sg.length ≤ 5) (hp : ∀ k, k < sg.length → (ph ⟨t, sg⟩ k).length ≤ 9) : SmP ⟨t, sg⟩ 9 :=
  ⟨by have := h.1; simp only; omega, fun k hk => by have := h.2 k hk; simp only at this ⊢; omega, by simp only; omega, fun k hk => hp k hk⟩
theorem ph_cons {t : List (List Int)} {sg : List (List Int × Int)} {s s' : List Int × Int} (h : ∀ k, k < (s :: sg).length → (ph ⟨t, s :: sg⟩ k).length ≤ 9) (hs : s'.1.length ≤ 9) : ∀ k, k < (s' :: sg).length → (ph ⟨t, s' :: sg⟩ k).length ≤ 9 := by
  intro k hk
  cases k with
  | zero => simpa [ph] using hs
  | succ k =>
    have := h (k + 1) (by simpa using hk)
    simpa [ph] using this
theorem OwnPl.mono {w : World} {lo lo' : Nat} {S : Option Addr} {d : Nat} {sg : List (List Int × Int)} (h : OwnPl w lo S d sg) (hl : lo' ≤ lo) : OwnPl w lo' S d sg := by
  obtain ⟨qs, h1, h2⟩ := h
  exact ⟨qs, OwnSt.mono h1 hl, h2.1, fun k q s hq hs => ⟨(h2.2 k q s hq hs).1, (h2.2 k q s hq hs).2.1, (h2.2 k q s hq hs).2.2.mono hl⟩⟩

/-- The end: the plan is handed back. -/
theorem fin2 {w wr : World} {gz gp rb : Nat} {V0 V1 : Value} {cs : Array Value} (hbz : Blk wr gz 26 #[.slice none 0 0, .slice none 0 0]) (hz : gz = w.heap.size) (G : w.grownBy wr (some rb)) :
    w.grownBy ((wr.setCell ⟨gz, 0, none⟩ V0).setCell ⟨gz, 1, none⟩ V1) (some rb) := by
  subst hz
  exact only_setCell (only_setCell G (p := ⟨w.heap.size, 0, none⟩) (.inr (Nat.le_refl _)) V0) (p := ⟨w.heap.size, 1, none⟩) (.inr (Nat.le_refl _)) V1

set_option maxRecDepth 100000 in
set_option maxHeartbeats 3200000 in
theorem anyPlan_any (rb M : Nat) (w : World) (hd : Rdr w rb M) (hM : M ≤ 100000) :
    Calls Try.prog 33 #[.pointer (some ⟨rb, 0, none⟩)] w (DrawPP w rb (M + 2000)) := by
  have hrb := hd.lt
  have hbz := Blk.new w 26 #[.slice none 0 0, .slice none 0 0]
  have G0 := only_alloc (only_refl w (some rb)) (.cells #[.slice none 0 0, .slice none 0 0] 26)
  have hd0 := hd.alloc (.cells #[.slice none 0 0, .slice none 0 0] 26)
  have hs0 : (w.alloc (.cells #[.slice none 0 0, .slice none 0 0] 26)).heap.size = w.heap.size + 1 := by simp
  clear hd
  go_enter Try.func33, Try.ntmps33
  go_wp2_with fail
  generalize w.alloc (.cells #[.slice none 0 0, .slice none 0 0] 26) = wa at *
  have hg6 := Blk.new wa 3 ([4, 3, 5, 2, 1, 6].map (Value.int .i64)).toArray
  rw [hs0] at hg6
  refine (one_any _ rb M _ 6 _ [4, 3, 5, 2, 1, 6] (hd0.alloc _) (by omega) hg6 (by omega) rfl (by omega) (by omega)).mono ?_
  rintro e w1 ⟨n0, rfl, hn0, hd1, hg1⟩
  have hgg := only_trans (only_alloc (only_refl wa (some rb)) (.cells ([4, 3, 5, 2, 1, 6].map (Value.int .i64)).toArray 3)) hg1
  have hbz1 := hbz.grown hgg (fun e => by injection e with e; omega)
  have G1 := only_trans G0 hgg
  have hz1 := hgg.size
  have hnb : 1 ≤ n0 ∧ n0 ≤ 6 := by simp at hn0; omega
  obtain ⟨n, rfl⟩ := Int.eq_ofNat_of_zero_le (show 0 ≤ n0 by omega)
  clear hg6 hg1 hgg hd0 hbz G0 hn0
  go_wp2_with fail
  refine (randomClear_any n rb _ _ (by omega) (by omega) hd1 (by omega)).mono ?_
  rintro e w2 ⟨t, T, c, rfl, -, hG, ht, hd2, hg2⟩
  have hgood := Lib.hid (ht.good (by omega) (by omega))
  have hsm := Lib.hid (ht.sm (by omega))
  have hbz2 := hbz1.grown hg2 (fun e => by injection e with e; omega)
  have G2 := only_trans G1 hg2
  have hz2 := hg2.size
  obtain ⟨lo, hlo⟩ : ∃ lo, lo = w1.heap.size := ⟨_, rfl⟩
  obtain ⟨hi, hhi⟩ : ∃ hi, hi = w2.heap.size := ⟨_, rfl⟩
  rw [← hlo, ← hhi] at hG
  clear hbz1 hg2 hd1 G1 ht
  go_wp2_with fail
  refine (randomPlan_any t T c rb _ lo hi _ hG hgood.out (by omega) (by omega) (by omega) hd2 (by omega)).mono ?_
  rintro e w3 ⟨sg, S, d, rfl, hP, hl5, hl1, hsd, hph, hd3, hg3⟩
  have Hph := Lib.hid (fun k (hk : k < sg.length) => show (ph ⟨t, sg⟩ k).length ≤ 9 by have := hph k hk; omega)
  have hG3 := hG.grown hg3 (by omega) (fun b e => by injection e with e; omega)
  have hbz3 := hbz2.grown hg3 (fun e => by injection e with e; omega)
  have G3 := only_trans G2 hg3
  have hz3 := hg3.size
  have hP3 : OwnPl w3 hi S d sg := by rw [hhi]; exact hP
  have hbp := Blk.new w3 26 (plC ⟨t, sg⟩ T c S d)
  have hG4 := hG3.alloc (.cells (plC ⟨t, sg⟩ T c S d) 26)
  have hP4 := hP3.below ((Below.refl _ _).alloc (Nat.le_refl _) (.cells (plC ⟨t, sg⟩ T c S d) 26))
  have hbz4 := hbz3.alloc (.cells (plC ⟨t, sg⟩ T c S d) 26)
  have G4 := only_alloc G3 (.cells (plC ⟨t, sg⟩ T c S d) 26)
  have hd4 := hd3.alloc (.cells (plC ⟨t, sg⟩ T c S d) 26)
  have hs4 : (w3.alloc (.cells (plC ⟨t, sg⟩ T c S d) 26)).heap.size = w3.heap.size + 1 := by simp
  clear hG hbz2 hg3 hd2 G2 hP hph hG3 hbz3 G3 hP3 hd3
  go_wp2_with fail
  generalize hgp : w3.heap.size = gp at *
  generalize w3.alloc (.cells #[.slice T t.length c, .slice S sg.length d] 26) = w4 at *
  refine (pick_any _ rb _ 24 hd4 (by omega)).mono ?_
  rintro e w5 ⟨k, rfl, -, -, hd5, hg5⟩
  have hG5 := hG4.grown hg5 (by omega) (fun b e => by injection e with e; omega)
  have hP5 := hP4.old hg5 (fun b e => by injection e with e; omega)
  have hbz5 := hbz4.grown hg5 (fun e => by injection e with e; omega)
  have hbp5 := hbp.grown hg5 (fun e => by injection e with e; omega)
  have G5 := only_trans G4 hg5
  have hz5 := hg5.size
  clear hG4 hP4 hbz4 hbp G4 hd4 hg5
  obtain ⟨s0, sg', hsg⟩ : ∃ s0 sg', sg = s0 :: sg' := by
    cases sg with
    | nil => simp at hl1
    | cons s0 sg' => exact ⟨s0, sg', rfl⟩
  have hl0 : 0 < sg.length := by omega
  have Hsg := Lib.hid hsg
  have Hlen : ∀ x : List Int × Int, Hid ((x :: sg').length = sg.length) := fun x => Lib.hid (by rw [hsg]; rfl)
  have Hph' := Lib.hid (show ∀ k, k < (s0 :: sg').length → (ph ⟨t, s0 :: sg'⟩ k).length ≤ 9 by rw [← hsg]; exact Hph.out)
  clear hsg
  cases hk0 : (k == 0) with
  | true =>
    have hP5s : OwnPl w5 hi S d (s0 :: sg') := Hsg.out ▸ hP5
    obtain ⟨g0, rfl, -⟩ := hP5s.put0
    obtain ⟨S0, hS⟩ : ∃ S0 : World → Prop, S0 = fun y => Blk y gp 26 (plC ⟨t, sg⟩ T c (some ⟨g0, 0, none⟩) d) := ⟨_, rfl⟩
    have hS1 : ∀ y, S0 y → Blk y gp 26 (plC ⟨t, sg⟩ T c (some ⟨g0, 0, none⟩) d) := fun y h => by rw [hS] at h; exact h
    have k0 : ∀ y : Held S0, y.x.cell? ⟨gp, 0, none⟩ = some (.slice T t.length c) := fun y => (hS1 y.x y.h).cell 0
    have k1 : ∀ y : Held S0, y.x.cell? ⟨gp, 1, none⟩ = some (.slice (some ⟨g0, 0, none⟩) sg.length d) := fun y => (hS1 y.x y.h).cell 1
    have hS3 : ∀ y, Blk y gp 26 (plC ⟨t, sg⟩ T c (some ⟨g0, 0, none⟩) d) → S0 y := fun y hy => by rw [hS]; exact hy
    have HS3 := Lib.hid hS3
    have hl0' : 0 < sg.length := hl0
    clear hS hS1 hS3 hP5s
    go_wp2_with fail
    refine wp_region_mix S0 [(0, 0), (0, 1), (0, 2), (1, 3), (1, 4), (0, 5), (0, 6), (1, 7)] [] (by kernel_rfl) (by kernel_rfl) (HS3.out _ hbp5.drew) ?_
    intro hne1
    simp only [mixOps, List.filterMap_cons, List.filterMap_nil, List.getElem?_toArray, List.getElem?_cons_zero, List.getElem?_cons_succ, Option.map_some]
    have hGd := hG5.drew
    have hPd := hP5.below (Below.refl _ _).drew
    have hbzd := hbz5.drew
    have hbpd := hbp5.drew
    have Gd := only_drew G5
    have hdd := hd5.drew
    have hzd : w4.heap.size ≤ w5.drew.heap.size := hz5
    clear hG5 hP5 hbz5 hbp5 G5 hd5
    generalize w5.drew = wd at *
    repeat (refine mix_early (fun K hK => ?_); go_simp; refine hK _ ?_; clear hK K)
    refine mix_late rfl (fun K hK => ?_)
    go_wp2_with fail
    refine ⟨HS3.out _ (hbpd.alloc _), ?_⟩
    refine mix_late rfl (fun K hK => ?_)
    go_wp2_with fail
    refine (one_any _ rb _ _ 3 _ [4, 40, 41] (hdd.alloc _) (by omega) (Blk.new _ _ _) (by omega) rfl (by omega) (by omega)).mono ?_
    rintro e w6 ⟨x, rfl, -, hd6, hg6⟩
    have hgg := only_trans (only_alloc (only_refl wd (some rb)) _) hg6
    have hG6 := hGd.grown hgg (by omega) (fun b e => by injection e with e; omega)
    have hP6 : OwnPl w6 hi (some ⟨g0, 0, none⟩) d (s0 :: sg') := Hsg.out ▸ hPd.old hgg (fun b e => by injection e with e; omega)
    have hbz6 := hbzd.grown hgg (fun e => by injection e with e; omega)
    have hbp6 := hbpd.grown hgg (fun e => by injection e with e; omega)
    have G6 := only_trans Gd hgg
    have hz6 := hgg.size
    obtain ⟨g1, e1', hlg, hgs, ⟨cur, hcur⟩, ⟨z0, hz0⟩, ⟨z1, hz1'⟩, hf0, hf1, hput1, hput0⟩ := hP6.put0
    obtain rfl : g0 = g1 := by simpa using e1'
    have hgne : gp ≠ g0 := blk_type hbp6 hcur (by decide)
    have hbp7 := hbp6.far (p := ⟨g0, 1, none⟩) hgne (.int .i64 x)
    have hbz7 := hbz6.far (p := ⟨g0, 1, none⟩) (by simp; omega) (.int .i64 x)
    have hP7 := hput1 x
    have hG7 := hG6.grown (only_set (w := w6) (g := g0) (k := 1) (.int .i64 x)) (by omega) (fun b e => by injection e with e; omega)
    have hd7 := hd6.setCell (p := ⟨g0, 1, none⟩) (by simp; omega) (.int .i64 x)
    have G7 := only_setCell G6 (p := ⟨g0, 1, none⟩) (.inr (by simp; omega)) (.int .i64 x)
    have hs7 : (w6.setCell ⟨g0, 1, none⟩ (.int .i64 x)).heap.size = w6.heap.size := by simp
    clear hput0 hput1 hGd hPd hbzd hbpd Gd hdd hG6 hP6 hbz6 G6 hd6 hcur e1'
    go_wp2_with fail
    refine ⟨HS3.out _ hbp6, ?_⟩
    repeat (refine mix_early (fun K hK => ?_); go_simp; refine hK _ ?_; clear hK K)
    refine mix_late rfl (fun K hK => ?_)
    go_wp2_with fail
    refine ⟨HS3.out _ hbp7, ?_⟩
    refine mix_nil ?_
    simp only [tailT, List.filterMap_nil]
    refine wpLateC_nil (NoPanic.normal ?_)
    clear k0 k1 hne1 hz0 hz1' hf0 hf1 hbp6
    have f0 : (w6.setCell ⟨g0, 1, none⟩ (.int .i64 x)).cell? ⟨gp, 0, none⟩ = some (.slice T t.length c) := hbp7.cell 0
    have f1 : (w6.setCell ⟨g0, 1, none⟩ (.int .i64 x)).cell? ⟨gp, 1, none⟩ = some (.slice (some ⟨g0, 0, none⟩) sg.length d) := hbp7.cell 1
    have e0 : (w6.setCell ⟨g0, 1, none⟩ (.int .i64 x)).cell? ⟨w.heap.size, 0, none⟩ = some (.slice none 0 0) := hbz7.cell 0
    have e1 : (w6.setCell ⟨g0, 1, none⟩ (.int .i64 x)).cell? ⟨w.heap.size, 1, none⟩ = some (.slice none 0 0) := hbz7.cell 1
    have ef := hbz7.frozen
    have G9 := Lib.hid (only_setCell (only_setCell G7 (p := ⟨w.heap.size, 0, none⟩) (.inr (Nat.le_refl _)) (.slice T t.length c)) (p := ⟨w.heap.size, 1, none⟩) (.inr (Nat.le_refl _)) (.slice (some ⟨g0, 0, none⟩) sg.length d))
    have hd9 := Lib.hid ((hd7.setCell (p := ⟨w.heap.size, 0, none⟩) (by simp; omega) (.slice T t.length c)).setCell (p := ⟨w.heap.size, 1, none⟩) (by simp; omega) (.slice (some ⟨g0, 0, none⟩) sg.length d))
    have hP9 := Lib.hid ((hP7.old (only_set (w := w6.setCell ⟨g0, 1, none⟩ (.int .i64 x)) (g := w.heap.size) (k := 0) (.slice T t.length c)) (fun b e => by injection e with e; omega)).old (only_set (g := w.heap.size) (k := 1) (.slice (some ⟨g0, 0, none⟩) sg.length d)) (fun b e => by injection e with e; omega))
    have hG9 := Lib.hid ((hG7.grown (only_set (w := w6.setCell ⟨g0, 1, none⟩ (.int .i64 x)) (g := w.heap.size) (k := 0) (.slice T t.length c)) (by first | omega | (simp; omega)) (fun b e => by injection e with e; omega)).grown (only_set (g := w.heap.size) (k := 1) (.slice (some ⟨g0, 0, none⟩) sg.length d)) (by simp; omega) (fun b e => by injection e with e; omega))
    have hs9 : (((w6.setCell ⟨g0, 1, none⟩ (.int .i64 x)).setCell ⟨w.heap.size, 0, none⟩ (.slice T t.length c)).setCell ⟨w.heap.size, 1, none⟩ (.slice (some ⟨g0, 0, none⟩) sg.length d)).heap.size = (w6.setCell ⟨g0, 1, none⟩ (.int .i64 x)).heap.size := by simp
    clear hbz7 hbp7 G7 hd7 hP7 hG7
    go_wp2_with fail
    refine bodyPost_ret (v := .agg #[.slice T t.length c, .slice (some ⟨g0, 0, none⟩) sg.length d]) (by simp [results, Try.results33, go_sem, e0, e1]) rfl ⟨t, ((s0.1, x) :: sg'), T, c, (some ⟨g0, 0, none⟩), d, by simp only [plV, plC]; rw [(Hlen _).out], (hG9.out.up (by first | omega | (simp at hs9 ⊢; omega))).mono (by omega), hP9.out.mono (by omega), SmP.of hsm.out (by have := (Hlen (s0.1, x)).out; omega) (ph_cons Hph'.out (Hph'.out 0 (by simp))), by have := (Hlen (s0.1, x)).out; omega, hd9.out.mono (by omega), G9.out⟩
  | false =>
  cases hk1 : (k == 1) with
  | true =>
    have hP5s : OwnPl w5 hi S d (s0 :: sg') := Hsg.out ▸ hP5
    obtain ⟨g0, rfl, -⟩ := hP5s.put0
    obtain ⟨S0, hS⟩ : ∃ S0 : World → Prop, S0 = fun y => Blk y gp 26 (plC ⟨t, sg⟩ T c (some ⟨g0, 0, none⟩) d) := ⟨_, rfl⟩
    have hS1 : ∀ y, S0 y → Blk y gp 26 (plC ⟨t, sg⟩ T c (some ⟨g0, 0, none⟩) d) := fun y h => by rw [hS] at h; exact h
    have k0 : ∀ y : Held S0, y.x.cell? ⟨gp, 0, none⟩ = some (.slice T t.length c) := fun y => (hS1 y.x y.h).cell 0
    have k1 : ∀ y : Held S0, y.x.cell? ⟨gp, 1, none⟩ = some (.slice (some ⟨g0, 0, none⟩) sg.length d) := fun y => (hS1 y.x y.h).cell 1
    have hS3 : ∀ y, Blk y gp 26 (plC ⟨t, sg⟩ T c (some ⟨g0, 0, none⟩) d) → S0 y := fun y hy => by rw [hS]; exact hy
    have HS3 := Lib.hid hS3
    have hl0' : 0 < sg.length := hl0
    clear hS hS1 hS3 hP5s
    go_wp2_with fail
    refine wp_region_mix S0 [(0, 0), (0, 1), (0, 2), (0, 3), (0, 4), (1, 5), (0, 6), (0, 7), (1, 8)] [] (by kernel_rfl) (by kernel_rfl) (HS3.out _ hbp5.drew) ?_
    intro hne1
    simp only [mixOps, List.filterMap_cons, List.filterMap_nil, List.getElem?_toArray, List.getElem?_cons_zero, List.getElem?_cons_succ, Option.map_some]
    have hGd := hG5.drew
    have hPd := hP5.below (Below.refl _ _).drew
    have hbzd := hbz5.drew
    have hbpd := hbp5.drew
    have Gd := only_drew G5
    have hdd := hd5.drew
    have hzd : w4.heap.size ≤ w5.drew.heap.size := hz5
    clear hG5 hP5 hbz5 hbp5 G5 hd5
    generalize w5.drew = wd at *
    repeat (refine mix_early (fun K hK => ?_); go_simp; refine hK _ ?_; clear hK K)
    refine mix_late rfl (fun K hK => ?_)
    go_wp2_with fail
    refine (anyPhase_any t T c rb _ wd hGd.rd hgood.out hdd (by omega)).mono ?_
    rintro e w6 ⟨xs, A6, c6, rfl, ho6, hxl, hd6, hgg⟩
    have ho7 := ho6.mono (show hi ≤ wd.heap.size by omega)
    have hG6 := hGd.grown hgg (by omega) (fun b e => by injection e with e; omega)
    have hP6 : OwnPl w6 hi (some ⟨g0, 0, none⟩) d (s0 :: sg') := Hsg.out ▸ hPd.old hgg (fun b e => by injection e with e; omega)
    have hbz6 := hbzd.grown hgg (fun e => by injection e with e; omega)
    have hbp6 := hbpd.grown hgg (fun e => by injection e with e; omega)
    have G6 := only_trans Gd hgg
    have hz6 := hgg.size
    obtain ⟨g1, e1', hlg, hgs, ⟨cur, hcur⟩, ⟨z0, hz0⟩, ⟨z1, hz1'⟩, hf0, hf1, hput1, hput0⟩ := hP6.put0
    obtain rfl : g0 = g1 := by simpa using e1'
    have hgne : gp ≠ g0 := blk_type hbp6 hcur (by decide)
    have hbp7 := hbp6.far (p := ⟨g0, 0, none⟩) hgne (.slice A6 xs.length c6)
    have hbz7 := hbz6.far (p := ⟨g0, 0, none⟩) (by simp; omega) (.slice A6 xs.length c6)
    have hP7 := hput0 A6 c6 xs ho7
    have hG7 := hG6.grown (only_set (w := w6) (g := g0) (k := 0) (.slice A6 xs.length c6)) (by omega) (fun b e => by injection e with e; omega)
    have hd7 := hd6.setCell (p := ⟨g0, 0, none⟩) (by simp; omega) (.slice A6 xs.length c6)
    have G7 := only_setCell G6 (p := ⟨g0, 0, none⟩) (.inr (by simp; omega)) (.slice A6 xs.length c6)
    have hs7 : (w6.setCell ⟨g0, 0, none⟩ (.slice A6 xs.length c6)).heap.size = w6.heap.size := by simp
    clear hput0 hput1 hGd hPd hbzd hbpd Gd hdd hG6 hP6 hbz6 G6 hd6 hcur e1'
    go_wp2_with fail
    refine ⟨HS3.out _ hbp6, ?_⟩
    repeat (refine mix_early (fun K hK => ?_); go_simp; refine hK _ ?_; clear hK K)
    refine mix_late rfl (fun K hK => ?_)
    go_wp2_with fail
    refine ⟨HS3.out _ hbp7, ?_⟩
    refine mix_nil ?_
    simp only [tailT, List.filterMap_nil]
    refine wpLateC_nil (NoPanic.normal ?_)
    clear k0 k1 hne1 hz0 hz1' hf0 hf1 hbp6
    have f0 : (w6.setCell ⟨g0, 0, none⟩ (.slice A6 xs.length c6)).cell? ⟨gp, 0, none⟩ = some (.slice T t.length c) := hbp7.cell 0
    have f1 : (w6.setCell ⟨g0, 0, none⟩ (.slice A6 xs.length c6)).cell? ⟨gp, 1, none⟩ = some (.slice (some ⟨g0, 0, none⟩) sg.length d) := hbp7.cell 1
    have e0 : (w6.setCell ⟨g0, 0, none⟩ (.slice A6 xs.length c6)).cell? ⟨w.heap.size, 0, none⟩ = some (.slice none 0 0) := hbz7.cell 0
    have e1 : (w6.setCell ⟨g0, 0, none⟩ (.slice A6 xs.length c6)).cell? ⟨w.heap.size, 1, none⟩ = some (.slice none 0 0) := hbz7.cell 1
    have ef := hbz7.frozen
    have G9 := Lib.hid (only_setCell (only_setCell G7 (p := ⟨w.heap.size, 0, none⟩) (.inr (Nat.le_refl _)) (.slice T t.length c)) (p := ⟨w.heap.size, 1, none⟩) (.inr (Nat.le_refl _)) (.slice (some ⟨g0, 0, none⟩) sg.length d))
    have hd9 := Lib.hid ((hd7.setCell (p := ⟨w.heap.size, 0, none⟩) (by simp; omega) (.slice T t.length c)).setCell (p := ⟨w.heap.size, 1, none⟩) (by simp; omega) (.slice (some ⟨g0, 0, none⟩) sg.length d))
    have hP9 := Lib.hid ((hP7.old (only_set (w := w6.setCell ⟨g0, 0, none⟩ (.slice A6 xs.length c6)) (g := w.heap.size) (k := 0) (.slice T t.length c)) (fun b e => by injection e with e; omega)).old (only_set (g := w.heap.size) (k := 1) (.slice (some ⟨g0, 0, none⟩) sg.length d)) (fun b e => by injection e with e; omega))
    have hG9 := Lib.hid ((hG7.grown (only_set (w := w6.setCell ⟨g0, 0, none⟩ (.slice A6 xs.length c6)) (g := w.heap.size) (k := 0) (.slice T t.length c)) (by first | omega | (simp; omega)) (fun b e => by injection e with e; omega)).grown (only_set (g := w.heap.size) (k := 1) (.slice (some ⟨g0, 0, none⟩) sg.length d)) (by simp; omega) (fun b e => by injection e with e; omega))
    have hs9 : (((w6.setCell ⟨g0, 0, none⟩ (.slice A6 xs.length c6)).setCell ⟨w.heap.size, 0, none⟩ (.slice T t.length c)).setCell ⟨w.heap.size, 1, none⟩ (.slice (some ⟨g0, 0, none⟩) sg.length d)).heap.size = (w6.setCell ⟨g0, 0, none⟩ (.slice A6 xs.length c6)).heap.size := by simp
    clear hbz7 hbp7 G7 hd7 hP7 hG7
    go_wp2_with fail
    refine bodyPost_ret (v := .agg #[.slice T t.length c, .slice (some ⟨g0, 0, none⟩) sg.length d]) (by simp [results, Try.results33, go_sem, e0, e1]) rfl ⟨t, ((xs, s0.2) :: sg'), T, c, (some ⟨g0, 0, none⟩), d, by simp only [plV, plC]; rw [(Hlen _).out], (hG9.out.up (by first | omega | (simp at hs9 ⊢; omega))).mono (by omega), hP9.out.mono (by omega), SmP.of hsm.out (by have := (Hlen (xs, s0.2)).out; omega) (ph_cons Hph'.out hxl), by have := (Hlen (xs, s0.2)).out; omega, hd9.out.mono (by omega), G9.out⟩
  | false =>
  cases hk2 : (k == 2) with
  | true =>
    have c0 : w5.cell? ⟨gp, 0, none⟩ = some (.slice T t.length c) := hbp5.cell 0
    go_wp2_with fail
    refine (anyClear_any rb _ _ hd5 (by omega)).mono ?_
    rintro e w6 ⟨t2, T2, c2, rfl, -, hG6, hsm6, hd6, hg6⟩
    have hP6 := hP5.old hg6 (fun b e => by injection e with e; omega)
    have hbz6 := hbz5.grown hg6 (fun e => by injection e with e; omega)
    have hbp6 := hbp5.grown hg6 (fun e => by injection e with e; omega)
    have G6 := only_trans G5 hg6
    have hz6 := hg6.size
    obtain ⟨lo2, hlo2⟩ : ∃ lo2, lo2 = w5.heap.size := ⟨_, rfl⟩
    obtain ⟨hi2, hhi2⟩ : ∃ hi2, hi2 = w6.heap.size := ⟨_, rfl⟩
    rw [← hlo2, ← hhi2] at hG6
    clear hG5 hP5 hbz5 hbp5 G5 hd5 hg6 c0
    have b0 : w6.cell? ⟨gp, 0, none⟩ = some (.slice T t.length c) := hbp6.cell 0
    have bf := hbp6.frozen
    have hbp7 : Blk (w6.setCell ⟨gp, 0, none⟩ (.slice T2 t2.length c2)) gp 26 (plC ⟨t2, sg⟩ T2 c2 S d) := by
      have := hbp6.set_ 0 (.slice T2 t2.length c2)
      simpa using this
    have hbz7 := hbz6.far (p := ⟨gp, 0, none⟩) (by simp; omega) (.slice T2 t2.length c2)
    have hP7 := hP6.far hbp6 (only_set (w := w6) (g := gp) (k := 0) (.slice T2 t2.length c2))
    have hG7 := hG6.grown (only_set (w := w6) (g := gp) (k := 0) (.slice T2 t2.length c2)) (by omega) (fun b e => by injection e with e; omega)
    have hd7 := hd6.setCell (p := ⟨gp, 0, none⟩) (by simp; omega) (.slice T2 t2.length c2)
    have G7 := only_setCell G6 (p := ⟨gp, 0, none⟩) (.inr (by simp; omega)) (.slice T2 t2.length c2)
    have hs7 : (w6.setCell ⟨gp, 0, none⟩ (.slice T2 t2.length c2)).heap.size = w6.heap.size := by simp
    have Hsm7 := Lib.hid (SmP.of hsm6 hl5 (fun k hk => by have := Hph.out k hk; simpa [ph] using this))
    clear hbp6 hbz6 hP6 hG6 hd6 G6
    have f0 : (w6.setCell ⟨gp, 0, none⟩ (.slice T2 t2.length c2)).cell? ⟨gp, 0, none⟩ = some (.slice T2 t2.length c2) := hbp7.cell 0
    have f1 : (w6.setCell ⟨gp, 0, none⟩ (.slice T2 t2.length c2)).cell? ⟨gp, 1, none⟩ = some (.slice S sg.length d) := hbp7.cell 1
    have e0 : (w6.setCell ⟨gp, 0, none⟩ (.slice T2 t2.length c2)).cell? ⟨w.heap.size, 0, none⟩ = some (.slice none 0 0) := hbz7.cell 0
    have e1 : (w6.setCell ⟨gp, 0, none⟩ (.slice T2 t2.length c2)).cell? ⟨w.heap.size, 1, none⟩ = some (.slice none 0 0) := hbz7.cell 1
    have ef := hbz7.frozen
    have G9 := Lib.hid (only_setCell (only_setCell G7 (p := ⟨w.heap.size, 0, none⟩) (.inr (Nat.le_refl _)) (.slice T2 t2.length c2)) (p := ⟨w.heap.size, 1, none⟩) (.inr (Nat.le_refl _)) (.slice S sg.length d))
    have hd9 := Lib.hid ((hd7.setCell (p := ⟨w.heap.size, 0, none⟩) (by simp; omega) (.slice T2 t2.length c2)).setCell (p := ⟨w.heap.size, 1, none⟩) (by simp; omega) (.slice S sg.length d))
    have hP9 := Lib.hid ((hP7.old (only_set (w := w6.setCell ⟨gp, 0, none⟩ (.slice T2 t2.length c2)) (g := w.heap.size) (k := 0) (.slice T2 t2.length c2)) (fun b e => by injection e with e; omega)).old (only_set (g := w.heap.size) (k := 1) (.slice S sg.length d)) (fun b e => by injection e with e; omega))
    have hG9 := Lib.hid ((hG7.grown (only_set (w := w6.setCell ⟨gp, 0, none⟩ (.slice T2 t2.length c2)) (g := w.heap.size) (k := 0) (.slice T2 t2.length c2)) (by first | omega | (simp; omega)) (fun b e => by injection e with e; omega)).grown (only_set (g := w.heap.size) (k := 1) (.slice S sg.length d)) (by simp; omega) (fun b e => by injection e with e; omega))
    have hs9 : (((w6.setCell ⟨gp, 0, none⟩ (.slice T2 t2.length c2)).setCell ⟨w.heap.size, 0, none⟩ (.slice T2 t2.length c2)).setCell ⟨w.heap.size, 1, none⟩ (.slice S sg.length d)).heap.size = (w6.setCell ⟨gp, 0, none⟩ (.slice T2 t2.length c2)).heap.size := by simp
    clear hbz7 hbp7 G7 hd7 hP7 hG7
    go_wp2_with fail
    refine bodyPost_ret (v := .agg #[.slice T2 t2.length c2, .slice S sg.length d]) (by simp [results, Try.results33, go_sem, e0, e1]) rfl ⟨t2, sg, T2, c2, S, d, rfl, (hG9.out.up (by first | omega | (simp at hs9 ⊢; omega))).mono (by omega), hP9.out.mono (by omega), Hsm7.out, hsd, hd9.out.mono (by omega), G9.out⟩
  | false =>
    have f0 : w5.cell? ⟨gp, 0, none⟩ = some (.slice T t.length c) := hbp5.cell 0
    have f1 : w5.cell? ⟨gp, 1, none⟩ = some (.slice S sg.length d) := hbp5.cell 1
    have e0 : w5.cell? ⟨w.heap.size, 0, none⟩ = some (.slice none 0 0) := hbz5.cell 0
    have e1 : w5.cell? ⟨w.heap.size, 1, none⟩ = some (.slice none 0 0) := hbz5.cell 1
    have ef := hbz5.frozen
    have G9 := Lib.hid (only_setCell (only_setCell G5 (p := ⟨w.heap.size, 0, none⟩) (.inr (Nat.le_refl _)) (.slice T t.length c)) (p := ⟨w.heap.size, 1, none⟩) (.inr (Nat.le_refl _)) (.slice S sg.length d))
    have hd9 := Lib.hid ((hd5.setCell (p := ⟨w.heap.size, 0, none⟩) (by simp; omega) (.slice T t.length c)).setCell (p := ⟨w.heap.size, 1, none⟩) (by simp; omega) (.slice S sg.length d))
    have hP9 := Lib.hid ((hP5.old (only_set (w := w5) (g := w.heap.size) (k := 0) (.slice T t.length c)) (fun b e => by injection e with e; omega)).old (only_set (g := w.heap.size) (k := 1) (.slice S sg.length d)) (fun b e => by injection e with e; omega))
    have hG9 := Lib.hid ((hG5.grown (only_set (w := w5) (g := w.heap.size) (k := 0) (.slice T t.length c)) (by omega) (fun b e => by injection e with e; omega)).grown (only_set (g := w.heap.size) (k := 1) (.slice S sg.length d)) (by simp; omega) (fun b e => by injection e with e; omega))
    have hs9 : ((w5.setCell ⟨w.heap.size, 0, none⟩ (.slice T t.length c)).setCell ⟨w.heap.size, 1, none⟩ (.slice S sg.length d)).heap.size = w5.heap.size := by simp
    clear hbz5 hbp5 G5 hd5 hP5 hG5
    go_wp2_with fail
    refine bodyPost_ret (v := .agg #[.slice T t.length c, .slice S sg.length d]) (by simp [results, Try.results33, go_sem, e0, e1]) rfl ⟨t, sg, T, c, S, d, rfl, (hG9.out.up (by omega)).mono (by omega), hP9.out.mono (by omega), SmP.of hsm.out hl5 Hph.out, hsd, hd9.out.mono (by omega), G9.out⟩
end Go.Proofs.Ytcckipckgnkieaa
