/-
  Drawn plans with a span.
-/
import Derived.Test.YtcckipckgnkieaaPlAny2
namespace Go.Proofs.Ytcckipckgnkieaa
open Go.RowKit
set_option linter.unusedVariables false

/-- A drawn plan with a span. -/
def DrawPB (w : World) (e : Ending) (w' : World) : Prop :=
  ∃ p T c S d f n, e = .returned (.tuple #[plV p T c S d, .int .i64 f, .int .i64 n]) ∧ RdP w' T S p ∧ SmP p 9 ∧ p.sg.length ≤ d ∧ (-1 ≤ f ∧ f ≤ 10000) ∧ (-1 ≤ n ∧ n ≤ 151) ∧ Below w.heap.size w w'

set_option maxRecDepth 100000 in
set_option maxHeartbeats 3200000 in
theorem drawPH_any (w : World) (A : Option Addr) (len cap : Nat) (h : Bytes w A len) (hc : len ≤ cap) :
    Calls Try.prog 11 #[.slice A len cap] w (DrawPB w) := by
  have hbz := Blk.new w 26 #[.slice none 0 0, .slice none 0 0]
  have hB0 := (Below.refl w.heap.size w).alloc (Nat.le_refl _) (.cells #[.slice none 0 0, .slice none 0 0] 26)
  have h0 := h.alloc (.cells #[.slice none 0 0, .slice none 0 0] 26)
  have hs0 : (w.alloc (.cells #[.slice none 0 0, .slice none 0 0] 26)).heap.size = w.heap.size + 1 := by simp
  clear h
  go_enter Try.func11, Try.ntmps11
  go_wp2_with fail
  generalize w.alloc (.cells #[.slice none 0 0, .slice none 0 0] 26) = wa at *
  refine (newReader_any _ A len cap h0 hc).mono ?_
  rintro e w1 ⟨rb, rfl, hrb, hd1, hb1⟩
  have hbz1 := hbz.below hb1 (by omega)
  have hB1 := hB0.trans (hb1.mono (by omega))
  have hrb' : w.heap.size + 1 ≤ rb := by omega
  have hz1 := hb1.size
  clear hb1 hbz hB0 h0
  go_wp2_with fail
  refine (anyPlan_any rb 0 _ hd1 (by omega)).mono ?_
  rintro e w2 ⟨t, sg, T, c, S, d, rfl, hG, hP, hsm, hsd, hd2, hg2⟩
  have hbz2 := hbz1.grown hg2 (fun e => by injection e with e; omega)
  have hB2 := below_of_only hB1 hg2 (by omega)
  have hz2 := hg2.size
  have hrw := hd1.lt
  have Hsm := Lib.hid hsm
  have hbp := Blk.new w2 26 (plC ⟨t, sg⟩ T c S d)
  have o := Obj.cells (plC ⟨t, sg⟩ T c S d) 26
  have hbz3 := hbz2.alloc (.cells (plC ⟨t, sg⟩ T c S d) 26)
  have hG3 := hG.alloc (.cells (plC ⟨t, sg⟩ T c S d) 26)
  have hP3 := hP.below ((Below.refl _ _).alloc (Nat.le_refl _) (.cells (plC ⟨t, sg⟩ T c S d) 26))
  have hd3 := hd2.alloc (.cells (plC ⟨t, sg⟩ T c S d) 26)
  have hB3 := hB2.alloc hB2.size (.cells (plC ⟨t, sg⟩ T c S d) 26)
  have hs3 : (w2.alloc (.cells (plC ⟨t, sg⟩ T c S d) 26)).heap.size = w2.heap.size + 1 := by simp
  clear hbz1 hB1 hd1 hG hP hd2 hg2 hbz2 hB2 hsm o
  go_wp2_with fail
  generalize hgp : w2.heap.size = gp at *
  generalize w2.alloc (.cells #[.slice T t.length c, .slice S sg.length d] 26) = w3 at *
  refine (anySecond_any w3 rb _ hd3 (by omega)).mono ?_
  rintro e w4 ⟨f, rfl, hf0, hf1, hd4, hg4⟩
  have hbz4 := hbz3.grown hg4 (fun e => by injection e with e; omega)
  have hbp4 := hbp.grown hg4 (fun e => by injection e with e; omega)
  have hG4 := hG3.grown hg4 (by omega) (fun b e => by injection e with e; omega)
  have hP4 := hP3.old hg4 (fun b e => by injection e with e; omega)
  have hB4 := below_of_only hB3 hg4 (by omega)
  have hz4 := hg4.size
  clear hbz3 hbp hG3 hP3 hB3 hd3 hg4
  obtain ⟨S0, hS⟩ : ∃ S0 : World → Prop, S0 = fun y => Blk y gp 26 (plC ⟨t, sg⟩ T c S d) := ⟨_, rfl⟩
  have hS1 : ∀ y, S0 y → Blk y gp 26 (plC ⟨t, sg⟩ T c S d) := fun y h => by rw [hS] at h; exact h
  have k0 : ∀ y : Held S0, y.x.cell? ⟨gp, 0, none⟩ = some (.slice T t.length c) := fun y => (hS1 y.x y.h).cell 0
  have k1 : ∀ y : Held S0, y.x.cell? ⟨gp, 1, none⟩ = some (.slice S sg.length d) := fun y => (hS1 y.x y.h).cell 1
  have hS3 : ∀ y, Blk y gp 26 (plC ⟨t, sg⟩ T c S d) → S0 y := fun y hy => by rw [hS]; exact hy
  have HS3 := Lib.hid hS3
  clear hS hS1 hS3
  go_wp2_with fail
  refine wp_region_mix S0 [(0, 0), (0, 1), (0, 2), (1, 3), (1, 4), (1, 5), (0, 6), (0, 7)] [] (by kernel_rfl) (by kernel_rfl) (HS3.out _ hbp4.drew) ?_
  intro hne1
  simp only [mixOps, List.filterMap_cons, List.filterMap_nil, List.getElem?_toArray, List.getElem?_cons_zero, List.getElem?_cons_succ, Option.map_some]
  have hbzd := hbz4.drew
  have hbpd := hbp4.drew
  have hGd := hG4.drew
  have hPd := hP4.below (Below.refl _ _).drew
  have hBd := hB4.drew
  have hdd := hd4.drew
  have hzd : w3.heap.size ≤ w4.drew.heap.size := hz4
  clear hbz4 hbp4 hG4 hP4 hB4 hd4
  generalize w4.drew = wd at *
  repeat (refine mix_early (fun K hK => ?_); go_simp; refine hK _ ?_; clear hK K)
  refine mix_late rfl (fun K hK => ?_)
  go_wp2_with fail
  refine ⟨HS3.out _ (hbpd.alloc _), ?_⟩
  refine mix_late rfl (fun K hK => ?_)
  go_wp2_with fail
  refine (one_any _ rb _ _ 8 _ [40, 60, 20, 1, 0, 150, 151, -1] (hdd.alloc _) (by omega) (Blk.new _ _ _) (by omega) rfl (by omega) (by omega)).mono ?_
  rintro e w5 ⟨n, rfl, hn, hd5, hg5⟩
  have hnb : -1 ≤ n ∧ n ≤ 151 := by simp at hn; omega
  have hgg := only_trans (only_alloc (only_refl wd (some rb)) _) hg5
  have hbz5 := hbzd.grown hgg (fun e => by injection e with e; omega)
  have hbp5 := hbpd.grown hgg (fun e => by injection e with e; omega)
  have hG5 := hGd.grown hgg (by omega) (fun b e => by injection e with e; omega)
  have hP5 := hPd.old hgg (fun b e => by injection e with e; omega)
  have hB5 := below_of_only (a := w) hBd hgg (by omega)
  have hz5 := hgg.size
  clear hbzd hbpd hGd hPd hBd hdd hg5 hgg hn hd5
  go_wp2_with fail
  refine ⟨HS3.out _ hbp5, ?_⟩
  have e0 : w5.cell? ⟨w.heap.size, 0, none⟩ = some (.slice none 0 0) := hbz5.cell 0
  have e1 : w5.cell? ⟨w.heap.size, 1, none⟩ = some (.slice none 0 0) := hbz5.cell 1
  have ef := hbz5.frozen
  have hne : gp ≠ w.heap.size := by omega
  have hbp6 := (hbp5.far (p := ⟨w.heap.size, 0, none⟩) hne (.slice T t.length c)).far (p := ⟨w.heap.size, 1, none⟩) hne (.slice S sg.length d)
  have hB6 := Lib.hid ((hB5.setCell (p := ⟨w.heap.size, 0, none⟩) (Nat.le_refl _) (.slice T t.length c)).setCell (p := ⟨w.heap.size, 1, none⟩) (Nat.le_refl _) (.slice S sg.length d))
  have hP6 := (hP5.old (only_set (w := w5) (g := w.heap.size) (k := 0) (.slice T t.length c)) (fun b e => by injection e with e; omega)).old (only_set (g := w.heap.size) (k := 1) (.slice S sg.length d)) (fun b e => by injection e with e; omega)
  have hG6 := (hG5.grown (only_set (w := w5) (g := w.heap.size) (k := 0) (.slice T t.length c)) (by omega) (fun b e => by injection e with e; omega)).grown (only_set (g := w.heap.size) (k := 1) (.slice S sg.length d)) (by simp; omega) (fun b e => by injection e with e; omega)
  have hR6 := Lib.hid (hP6.rdp hG6.rd)
  clear hbz5 hG5 hP5 hB5 hP6 hG6
  refine mix_late rfl (fun K hK => ?_)
  go_wp2_with fail
  refine ⟨HS3.out _ hbp6, ?_⟩
  repeat (refine mix_early (fun K hK => ?_); go_simp; refine hK _ ?_; clear hK K)
  refine mix_nil ?_
  simp only [tailT, List.filterMap_nil]
  refine wpLateC_nil (NoPanic.normal ?_)
  clear k0 k1 hne1
  go_wp2_with fail
  refine bodyPost_ret (v := .tuple #[plV ⟨t, sg⟩ T c S d, .int .i64 f, .int .i64 n]) (by simp [results, Try.results11, go_sem, e0, e1]) rfl ⟨⟨t, sg⟩, T, c, S, d, f, n, rfl, hR6.out, Hsm.out, hsd, ⟨hf0, hf1⟩, hnb, hB6.out⟩
end Go.Proofs.Ytcckipckgnkieaa
