/-
  The generators of the statements' arguments.
-/
import Derived.Test.YtmnapeefclkldaaStDraw2
namespace Go.Proofs.Ytmnapeefclkldaa
open Go.RowKit
set_option linter.unusedVariables false

theorem own_cap {w : World} {lo : Nat} {T : TypeId} {A : Option Addr} {c : Nat} {xs : List Int} (h : OwnO fI w lo T A c xs) : xs.length ≤ c := by
  rcases h with ⟨_, rfl, _⟩ | ⟨_, _, _, _, _, _, h, _⟩
  · simp
  · exact h
theorem blk_far3 {w : World} {g g' : Nat} {t : TypeId} {cs : Array Value} {v0 v1 v2 : Value} (h : Blk w g t cs) (hg : g ≠ g') : Blk (set3 w g' v0 v1 v2) g t cs :=
  ((h.far (p := ⟨g', 0, none⟩) hg v0).far (p := ⟨g', 1, none⟩) hg v1).far (p := ⟨g', 2, none⟩) hg v2
/-- A street that was drawn, and nothing that was there has turned. -/
structure Drawn1 (n : Nat) (w' : World) (s : St) (G T : Option Addr) (c d : Nat) : Prop where
  hs : RdS w' s G T
  lg : s.gr.length ≤ 10
  lt : s.tr.length ≤ 10
  nG : ∀ b, blk G = some b → n ≤ b
  nT : ∀ b, blk T = some b → n ≤ b
  cG : s.gr.length ≤ c
  cT : s.tr.length ≤ d
def DrawA (w : World) (e : Ending) (w' : World) : Prop :=
  ∃ s G T c d, e = .returned (strV s G T c d) ∧ Drawn1 w.heap.size w' s G T c d ∧ Below w.heap.size w w'
def DrawB (w : World) (e : Ending) (w' : World) : Prop :=
  ∃ s os G T O c d f, e = .returned (.tuple #[strV s G T c d, .slice O os.length f]) ∧ Drawn1 w.heap.size w' s G T c d ∧ RdL fI w' O os ∧ (∀ b, blk O = some b → w.heap.size ≤ b) ∧ os.length ≤ f ∧ os.length ≤ 20 ∧ Below w.heap.size w w'
def DrawC (w : World) (e : Ending) (w' : World) : Prop :=
  ∃ s os G T O c d f t, e = .returned (.tuple #[strV s G T c d, .slice O os.length f, .int .i64 t]) ∧ Drawn1 w.heap.size w' s G T c d ∧ RdL fI w' O os ∧ (∀ b, blk O = some b → w.heap.size ≤ b) ∧ os.length ≤ f ∧ os.length ≤ 20 ∧ -1 ≤ t ∧ t ≤ 10000 ∧ Below w.heap.size w w'

set_option maxHeartbeats 1600000 in
theorem drawA_any (w : World) (A : Option Addr) (len cap : Nat) (h : Bytes w A len) (hc : len ≤ cap) :
    Calls Try.prog 29 #[.slice A len cap] w (DrawA w) := by
  have bR := Blk.new w 27 strZ
  have hB := (Below.refl w.heap.size w).alloc (Nat.le_refl _) (.cells strZ 27)
  go_enter Try.func29, Try.ntmps29
  go_wp2_with fail
  refine (newReader_any _ A len cap (h.alloc _) hc).mono ?_
  rintro e w1 ⟨rb, rfl, hrb, hr1, v1⟩
  replace bR := bR.below v1 bR.lt
  replace hB := hB.trans (v1.mono hB.size)
  have hRr : w.heap.size < rb := by simp at hrb; omega
  clear v1 hrb
  go_wp2_with fail
  refine (anyStreet_any _ rb 0 hr1 (by omega)).mono ?_
  rintro e w2 ⟨s, G, T, c, d, rfl, yG, yT, lg, lt, hr2, hg2⟩
  have rG := yG.lt
  have rT := yT.lt
  have cG := own_cap yG
  have cT := own_cap yT
  have hr1l := hr1.lt
  replace bR := bR.grown hg2 (fun e => by injection e with e; omega)
  replace hB := below_of_only hB hg2 (by omega)
  have HG := Lib.hid yG
  have HT := Lib.hid yT
  clear hg2 yG yT hr1 hr2
  have e0 := bR.cell 0
  have e1 := bR.cell 1
  have e2 := bR.cell 2
  have ef := bR.frozen
  simp at e0 e1 e2
  clear bR
  go_wp2_with fail
  refine bodyPost_ret (v := strV s G T c d) (by simp [results, Try.results29, go_sem, e0, e1, e2]) rfl ⟨s, G, T, c, d, rfl, ⟨⟨?_, ?_, by omega, by omega⟩, lg, lt, fun b h => by have := (rG b h).1; omega, fun b h => by have := (rT b h).1; omega, cG, cT⟩, ?_⟩
  · exact (own_set3 HG.out (fun b h => by have := (rG b h).1; omega)).rd
  · exact (own_set3 HT.out (fun b h => by have := (rT b h).1; omega)).rd
  · exact below_set3 hB (Nat.le_refl _)

set_option maxHeartbeats 3200000 in
theorem drawB_any (w : World) (A : Option Addr) (len cap : Nat) (h : Bytes w A len) (hc : len ≤ cap) :
    Calls Try.prog 32 #[.slice A len cap] w (DrawB w) := by
  have bR := Blk.new w 27 strZ
  have hB := (Below.refl w.heap.size w).alloc (Nat.le_refl _) (.cells strZ 27)
  go_enter Try.func32, Try.ntmps32
  go_wp2_with fail
  refine (newReader_any _ A len cap (h.alloc _) hc).mono ?_
  rintro e w1 ⟨rb, rfl, hrb, hr1, v1⟩
  replace bR := bR.below v1 bR.lt
  replace hB := hB.trans (v1.mono hB.size)
  have hRr : w.heap.size < rb := by simp at hrb; omega
  clear v1 hrb
  go_wp2_with fail
  refine (anyStreet_any _ rb 0 hr1 (by omega)).mono ?_
  rintro e w2 ⟨s, G, T, c, d, rfl, yG, yT, lg, lt, hr2, hg2⟩
  have rG := yG.lt
  have rT := yT.lt
  have cG := own_cap yG
  have cT := own_cap yT
  have hr1l := hr1.lt
  have hr2l := hr2.lt
  replace bR := bR.grown hg2 (fun e => by injection e with e; omega)
  replace hB := below_of_only hB hg2 (by omega)
  have bs := Blk.new w2 27 (strC s G T c d)
  replace bR := bR.alloc (.cells (strC s G T c d) 27)
  replace hB := hB.alloc hB.size (.cells (strC s G T c d) 27)
  replace hr2 := hr2.alloc (.cells (strC s G T c d) 27)
  have hs : RdS w2 s G T := ⟨yG.rd, yT.rd, by omega, by omega⟩
  replace hs := hs.alloc (.cells (strC s G T c d) 27)
  clear hg2 yG yT hr1
  go_wp2_with fail
  generalize w2.alloc (.cells (strC s G T c d) 27) = w3 at *
  obtain ⟨gs, hgs⟩ : ∃ gs, gs = w2.heap.size := ⟨_, rfl⟩
  rw [← hgs] at bs
  simp only [← hgs]
  have hgs1 : w2.heap.size ≤ gs := by omega
  have hgs2 : gs ≤ w2.heap.size := by omega
  clear hgs
  have hw2 : w.heap.size < gs := by omega
  obtain ⟨gR, hgR⟩ : ∃ gR, gR = w.heap.size := ⟨_, rfl⟩
  rw [← hgR] at bR
  simp only [← hgR]
  have hgR1 : w.heap.size ≤ gR := by omega
  have hgR2 : gR ≤ w.heap.size := by omega
  clear hgR
  obtain ⟨S, hS⟩ : ∃ S : World → Prop, S = fun x => Blk x gs 27 (strC s G T c d) := ⟨_, rfl⟩
  have hS1 : ∀ x, S x → Blk x gs 27 (strC s G T c d) := fun x h => by rw [hS] at h; exact h
  have hS3 : ∀ x, Blk x gs 27 (strC s G T c d) → S x := fun x h1 => by rw [hS]; exact h1
  obtain ⟨k0, k1, k2⟩ := heldS hS1
  have HS3 := Lib.hid hS3
  clear hS hS1 hS3
  refine wp_region_mix S [(0, 0), (0, 1), (0, 2), (1, 3), (1, 4), (0, 5)] [] (by kernel_rfl) (by kernel_rfl) (HS3.out _ bs.drew) ?_
  intro hne1
  simp only [mixOps, List.filterMap_cons, List.filterMap_nil, List.getElem?_toArray, List.getElem?_cons_zero, List.getElem?_cons_succ, Option.map_some]
  replace bs := bs.drew
  replace bR := bR.drew
  replace hB := hB.drew
  replace hs := hs.drew
  replace hr2 := hr2.drew
  generalize w3.drew = wd at *
  repeat (refine mix_early (fun K hK => ?_); go_simp; refine hK _ ?_; clear hK K)
  refine mix_late rfl (fun K hK => ?_)
  go_wp2_with fail
  refine (anyOffsets_any _ rb _ s G T c d hr2 (by omega) hs (fun b h => by have := (rG b h).1; omega) (fun b h => by have := (rT b h).1; omega) lg).mono ?_
  rintro e w4 ⟨os, O, f, rfl, yO, lo, hr4, hg4⟩
  have rO := yO.lt
  have cO := own_cap yO
  have hsl := bs.lt
  replace hs := hs.grown hg4 (fun b h => by have := (rG b h).1; omega) (fun b h => by have := (rT b h).1; omega)
  replace bs := bs.grown hg4 (fun e => by injection e with e; omega)
  replace bR := bR.grown hg4 (fun e => by injection e with e; omega)
  replace hB := below_of_only hB hg4 (by omega)
  clear hg4 hr2 hr4
  have e0 := bR.cell 0
  have e1 := bR.cell 1
  have e2 := bR.cell 2
  have ef := bR.frozen
  simp at e0 e1 e2
  go_wp2_with fail
  refine ⟨HS3.out _ bs, ?_⟩
  refine mix_late rfl (fun K hK => ?_)
  go_wp2_with fail
  clear e0 e1 e2 ef
  have bR2 : Blk _ gR 27 _ := bR.set3 (v0 := .int .i64 s.cy) (v1 := .slice G s.gr.length c) (v2 := .slice T s.tr.length d)
  have bs2 := blk_far3 bs (g' := gR) (v0 := .int .i64 s.cy) (v1 := .slice G s.gr.length c) (v2 := .slice T s.tr.length d) (by omega)
  have hO := own_set3 (g := gR) (v0 := .int .i64 s.cy) (v1 := .slice G s.gr.length c) (v2 := .slice T s.tr.length d) yO (fun b h => by have := (rO b h).1; omega)
  have hs2 : RdS (set3 w4 gR (.int .i64 s.cy) (.slice G s.gr.length c) (.slice T s.tr.length d)) s G T := hs.grown (only_set3 _ _ _ _ _) (fun b h => by have := (rG b h).1; omega) (fun b h => by have := (rT b h).1; omega)
  have hB2 := below_set3 (g := gR) (v0 := .int .i64 s.cy) (v1 := .slice G s.gr.length c) (v2 := .slice T s.tr.length d) hB (by omega)
  refine ⟨HS3.out _ bs2, ?_⟩
  simp only [set3] at bR2 bs2 hO hs2 hB2
  clear bs bR hs hB
  generalize ((w4.setCell ⟨gR, 0, none⟩ (.int .i64 s.cy)).setCell ⟨gR, 1, none⟩ (.slice G s.gr.length c)).setCell ⟨gR, 2, none⟩ (.slice T s.tr.length d) = w5 at *
  repeat (refine mix_early (fun K hK => ?_); go_simp; refine hK _ ?_; clear hK K)
  refine mix_nil ?_
  simp only [tailT, List.filterMap_nil]
  refine wpLateC_nil (NoPanic.normal ?_)
  obtain ⟨e0, e1, e2⟩ := loadS bR2
  have Hs := Lib.hid hs2
  have HO := Lib.hid hO
  clear k0 k1 k2 bs2 bR2 hs2 hO
  go_wp2_with fail
  exact bodyPost_ret (v := .tuple #[strV s G T c d, .slice O os.length f]) (by simp [results, Try.results32, go_sem, e0, e1, e2]) rfl ⟨s, os, G, T, O, c, d, f, rfl, ⟨Hs.out, lg, lt, fun b h => by have := (rG b h).1; omega, fun b h => by have := (rT b h).1; omega, cG, cT⟩, HO.out.rd, fun b h => by have := (rO b h).1; omega, cO, lo, hB2⟩

set_option maxHeartbeats 1600000 in
theorem drawTwo_any (w : World) (A : Option Addr) (len cap : Nat) (h : Bytes w A len) (hc : len ≤ cap) :
    Calls Try.prog 35 #[.slice A len cap] w (DrawB w) := by
  have bR := Blk.new w 27 strZ
  have hB := (Below.refl w.heap.size w).alloc (Nat.le_refl _) (.cells strZ 27)
  go_enter Try.func35, Try.ntmps35
  go_wp2_with fail
  refine (drawB_any _ A len cap (h.alloc _) hc).mono ?_
  rintro e w1 ⟨s, os, G, T, O, c, d, f, rfl, ⟨hs, lg, lt, nG, nT, cG, cT⟩, ho, nO, cO, lo, v1⟩
  replace bR := bR.below v1 bR.lt
  replace hB := hB.trans (v1.mono hB.size)
  clear v1
  have e0 := bR.cell 0
  have e1 := bR.cell 1
  have e2 := bR.cell 2
  have ef := bR.frozen
  simp at e0 e1 e2
  have Hs := Lib.hid hs
  have Ho := Lib.hid ho
  replace nG : ∀ b, blk G = some b → w.heap.size < b := fun b h => by have := nG b h; simp at this; omega
  replace nT : ∀ b, blk T = some b → w.heap.size < b := fun b h => by have := nT b h; simp at this; omega
  replace nO : ∀ b, blk O = some b → w.heap.size < b := fun b h => by have := nO b h; simp at this; omega
  clear bR hs ho
  go_wp2_with fail
  refine bodyPost_ret (v := .tuple #[strV s G T c d, .slice O os.length f]) (by simp [results, Try.results35, go_sem, e0, e1, e2]) rfl ⟨s, os, G, T, O, c, d, f, rfl, ⟨?_, lg, lt, fun b h => by have := nG b h; omega, fun b h => by have := nT b h; omega, cG, cT⟩, ?_, fun b h => by have := nO b h; omega, cO, lo, ?_⟩
  · exact Hs.out.grown (only_set3 _ _ _ _ _) (fun b h => by have := nG b h; omega) (fun b h => by have := nT b h; omega)
  · exact Ho.out.grown (only_set3 _ _ _ _ _) (fun b o e e2 => by have := nO b (by rw [e]; rfl); injection e2; omega)
  · exact below_set3 hB (Nat.le_refl _)

theorem anySecond_any (w : World) (rb M : Nat) (hr : Rdr w rb M) (hM : M ≤ 900000000) :
    Calls Try.prog 52 #[.pointer (some ⟨rb, 0, none⟩)] w fun e w' => ∃ x : Int, e = .returned (.int .i64 x) ∧ -1 ≤ x ∧ x ≤ 10000 ∧ Rdr w' rb (M + 1) ∧ w.grownBy w' (some rb) := by
  have hlt := hr.lt
  go_enter Try.func52, Try.ntmps52
  go_wp2_with fail
  refine (one_any _ rb M _ 10 _ [0, 7, 13, 20, 31, 50, 100, 9999, 10000, -1] (hr.alloc _) (by omega) (Blk.new _ _ _) (by omega) rfl (by omega) (by omega)).mono ?_
  rintro e w5 ⟨x, rfl, hx, hr5, hg5⟩
  have hx : -1 ≤ x ∧ x ≤ 10000 := by simp at hx; omega
  have G := only_trans (only_alloc (only_refl w (some rb)) _) hg5
  clear hg5
  go_wp2_with fail
  go_ret
  exact ⟨x, rfl, hx.1, hx.2, hr5, G⟩
set_option maxHeartbeats 3200000 in
theorem drawC_any (w : World) (A : Option Addr) (len cap : Nat) (h : Bytes w A len) (hc : len ≤ cap) :
    Calls Try.prog 31 #[.slice A len cap] w (DrawC w) := by
  have bR := Blk.new w 27 strZ
  have hB := (Below.refl w.heap.size w).alloc (Nat.le_refl _) (.cells strZ 27)
  go_enter Try.func31, Try.ntmps31
  go_wp2_with fail
  refine (newReader_any _ A len cap (h.alloc _) hc).mono ?_
  rintro e w1 ⟨rb, rfl, hrb, hr1, v1⟩
  replace bR := bR.below v1 bR.lt
  replace hB := hB.trans (v1.mono hB.size)
  have hRr : w.heap.size < rb := by simp at hrb; omega
  clear v1 hrb
  go_wp2_with fail
  refine (anyStreet_any _ rb 0 hr1 (by omega)).mono ?_
  rintro e w2 ⟨s, G, T, c, d, rfl, yG, yT, lg, lt, hr2, hg2⟩
  have rG := yG.lt
  have rT := yT.lt
  have cG := own_cap yG
  have cT := own_cap yT
  have hr1l := hr1.lt
  have hr2l := hr2.lt
  replace bR := bR.grown hg2 (fun e => by injection e with e; omega)
  replace hB := below_of_only hB hg2 (by omega)
  have bs := Blk.new w2 27 (strC s G T c d)
  replace bR := bR.alloc (.cells (strC s G T c d) 27)
  replace hB := hB.alloc hB.size (.cells (strC s G T c d) 27)
  replace hr2 := hr2.alloc (.cells (strC s G T c d) 27)
  have hs : RdS w2 s G T := ⟨yG.rd, yT.rd, by omega, by omega⟩
  replace hs := hs.alloc (.cells (strC s G T c d) 27)
  clear hg2 yG yT hr1
  go_wp2_with fail
  generalize w2.alloc (.cells (strC s G T c d) 27) = w3 at *
  obtain ⟨gs, hgs⟩ : ∃ gs, gs = w2.heap.size := ⟨_, rfl⟩
  rw [← hgs] at bs
  simp only [← hgs]
  have hgs1 : w2.heap.size ≤ gs := by omega
  have hgs2 : gs ≤ w2.heap.size := by omega
  clear hgs
  have hw2 : w.heap.size < gs := by omega
  obtain ⟨gR, hgR⟩ : ∃ gR, gR = w.heap.size := ⟨_, rfl⟩
  rw [← hgR] at bR
  simp only [← hgR]
  have hgR1 : w.heap.size ≤ gR := by omega
  have hgR2 : gR ≤ w.heap.size := by omega
  clear hgR
  refine (anyOffsets_any _ rb _ s G T c d hr2 (by omega) hs (fun b h => by have := (rG b h).1; omega) (fun b h => by have := (rT b h).1; omega) lg).mono ?_
  rintro e w4 ⟨os, O, f, rfl, yO, lo, hr4, hg4⟩
  have rO := yO.lt
  have cO := own_cap yO
  have hsl := bs.lt
  replace hs := hs.grown hg4 (fun b h => by have := (rG b h).1; omega) (fun b h => by have := (rT b h).1; omega)
  replace bs := bs.grown hg4 (fun e => by injection e with e; omega)
  replace bR := bR.grown hg4 (fun e => by injection e with e; omega)
  replace hB := below_of_only hB hg4 (by omega)
  clear hg4 hr2
  obtain ⟨p0, p1, p2⟩ := loadS bs
  go_wp2_with fail
  clear p0 p1 p2
  obtain ⟨S, hS⟩ : ∃ S : World → Prop, S = fun x => Blk x gs 27 (strC s G T c d) := ⟨_, rfl⟩
  have hS1 : ∀ x, S x → Blk x gs 27 (strC s G T c d) := fun x h => by rw [hS] at h; exact h
  have hS3 : ∀ x, Blk x gs 27 (strC s G T c d) → S x := fun x h1 => by rw [hS]; exact h1
  obtain ⟨k0, k1, k2⟩ := heldS hS1
  have HS3 := Lib.hid hS3
  clear hS hS1 hS3
  refine wp_region_mix S [(0, 0), (0, 1), (0, 2), (1, 3), (1, 4), (0, 5), (0, 6)] [] (by kernel_rfl) (by kernel_rfl) (HS3.out _ bs.drew) ?_
  intro hne1
  simp only [mixOps, List.filterMap_cons, List.filterMap_nil, List.getElem?_toArray, List.getElem?_cons_zero, List.getElem?_cons_succ, Option.map_some]
  replace bs := bs.drew
  replace bR := bR.drew
  replace hB := hB.drew
  replace hs := hs.drew
  replace hr4 := hr4.drew
  replace yO := yO.drew
  have hz4 : w4.drew.heap.size = w4.heap.size := rfl
  have hz5 : gs < w4.drew.heap.size := bs.lt
  generalize w4.drew = wd at *
  repeat (refine mix_early (fun K hK => ?_); go_simp; refine hK _ ?_; clear hK K)
  refine mix_late rfl (fun K hK => ?_)
  go_wp2_with fail
  refine (anySecond_any _ rb _ hr4 (by omega)).mono ?_
  rintro e w6 ⟨t, rfl, ht0, ht1, hr6, hg6⟩
  replace hs := hs.grown hg6 (fun b h => by have := (rG b h).1; omega) (fun b h => by have := (rT b h).1; omega)
  replace bs := bs.grown hg6 (fun e => by injection e with e; omega)
  replace bR := bR.grown hg6 (fun e => by injection e with e; omega)
  replace yO := yO.grown hg6 (or_of_lt (n := gs) (fun b h => by have := (rO b h).1; omega) (by omega))
  replace hB := below_of_only hB hg6 (by omega)
  clear hg6 hr6 hr4 hz4
  have e0 := bR.cell 0
  have e1 := bR.cell 1
  have e2 := bR.cell 2
  have ef := bR.frozen
  simp at e0 e1 e2
  go_wp2_with fail
  refine ⟨HS3.out _ bs, ?_⟩
  refine mix_late rfl (fun K hK => ?_)
  go_wp2_with fail
  clear e0 e1 e2 ef
  have bR2 : Blk _ gR 27 _ := bR.set3 (v0 := .int .i64 s.cy) (v1 := .slice G s.gr.length c) (v2 := .slice T s.tr.length d)
  have bs2 := blk_far3 bs (g' := gR) (v0 := .int .i64 s.cy) (v1 := .slice G s.gr.length c) (v2 := .slice T s.tr.length d) (by omega)
  have hO := own_set3 (g := gR) (v0 := .int .i64 s.cy) (v1 := .slice G s.gr.length c) (v2 := .slice T s.tr.length d) yO (fun b h => by have := (rO b h).1; omega)
  have hs2 : RdS (set3 w6 gR (.int .i64 s.cy) (.slice G s.gr.length c) (.slice T s.tr.length d)) s G T := hs.grown (only_set3 _ _ _ _ _) (fun b h => by have := (rG b h).1; omega) (fun b h => by have := (rT b h).1; omega)
  have hB2 := below_set3 (g := gR) (v0 := .int .i64 s.cy) (v1 := .slice G s.gr.length c) (v2 := .slice T s.tr.length d) hB (by omega)
  refine ⟨HS3.out _ bs2, ?_⟩
  simp only [set3] at bR2 bs2 hO hs2 hB2
  clear bs bR hs hB
  generalize ((w6.setCell ⟨gR, 0, none⟩ (.int .i64 s.cy)).setCell ⟨gR, 1, none⟩ (.slice G s.gr.length c)).setCell ⟨gR, 2, none⟩ (.slice T s.tr.length d) = w7 at *
  repeat (refine mix_early (fun K hK => ?_); go_simp; refine hK _ ?_; clear hK K)
  refine mix_nil ?_
  simp only [tailT, List.filterMap_nil]
  refine wpLateC_nil (NoPanic.normal ?_)
  obtain ⟨e0, e1, e2⟩ := loadS bR2
  have Hs := Lib.hid hs2
  have HO := Lib.hid hO
  clear k0 k1 k2 bs2 bR2 hs2 hO
  go_wp2_with fail
  exact bodyPost_ret (v := .tuple #[strV s G T c d, .slice O os.length f, .int .i64 t]) (by simp [results, Try.results31, go_sem, e0, e1, e2]) rfl ⟨s, os, G, T, O, c, d, f, t, rfl, ⟨Hs.out, lg, lt, fun b h => by have := (rG b h).1; omega, fun b h => by have := (rT b h).1; omega, cG, cT⟩, HO.out.rd, fun b h => by have := (rO b h).1; omega, cO, lo, ht0, ht1, hB2⟩
end Go.Proofs.Ytmnapeefclkldaa
