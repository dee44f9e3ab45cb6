/-
  Streets: the bands of both directions.
-/
import Derived.Test.YtmnapeefclkldaaStRev
namespace Go.Proofs.Ytmnapeefclkldaa
open Go.RowKit
set_option linter.unusedVariables false

def bothF (s : St) (os : List Int) : Int := bandN s os s.cy.toNat + bandN (revS s) os.reverse s.cy.toNat
theorem bothF_two {s : St} {os : List Int} (h : validO s os = true) : bothF s os = twoF s os := by
  have hg := validO_iff.mp h
  rw [twoF, if_pos h, bandF, if_pos h, bandF, if_pos (validO_iff.mpr (rev_good hg))]
  rfl
theorem revS_len (s : St) : (revS s).gr.length = s.gr.length ∧ (revS s).tr.length = s.tr.length := by simp [revS]

theorem sRevSt_r (s r : St) (hr : Hid (r = revS s)) (G T : Option Addr) (c d : Nat) (w : World) (hs : RdS w s G T) (hg : GoodT s) :
    Calls Try.prog 64 #[strV s G T c d] w (StNew r w) := by rw [hr.out]; exact sRevSt_any s G T c d w hs hg
theorem sRev_r (xs ys : List Int) (hy : Hid (ys = xs.reverse)) (A : Option Addr) (cap : Nat) (w : World) (hr : RdL fI w A xs) (hn : xs.length ≤ 900000) :
    Calls Try.prog 65 #[.slice A xs.length cap] w (NewS fI 3 w ys) := by rw [hy.out]; exact sRev_any xs A cap w hr (by omega) hn
theorem sband_v (s : St) (os : List Int) (v : Int) (hv : Hid (v = bandN s os s.cy.toNat)) (G T O : Option Addr) (c d f : Nat) (w : World) (hs : RdS w s G T) (ho : RdL fI w O os) (hg : GoodO s os) :
    Calls Try.prog 48 #[strV s G T c d, .slice O os.length f] w fun e w' => e = .returned (.int .i64 v) ∧ Below w.heap.size w w' := by rw [hv.out]; exact sband_any s os G T O c d f w hs ho hg

theorem far3 {w : World} {g g' : Nat} {t : TypeId} {cs : Array Value} {v0 v1 v2 : Value} (h : Blk w g t cs) (hg : g ≠ g') : Blk (set3 w g' v0 v1 v2) g t cs :=
  ((h.far (p := ⟨g', 0, none⟩) hg v0).far (p := ⟨g', 1, none⟩) hg v1).far (p := ⟨g', 2, none⟩) hg v2

set_option maxHeartbeats 3200000 in
theorem both_any (s : St) (os : List Int) (G T O : Option Addr) (c d f : Nat) (w : World) (hs : RdS w s G T) (ho : RdL fI w O os) (hg : GoodO s os) :
    Calls Try.prog 53 #[strV s G T c d, .slice O os.length f] w fun e w' => e = .returned (.int .i64 (bothF s os)) ∧ Below w.heap.size w w' := by
  have bx := Blk.new w 27 (strC s G T c d)
  replace hs := hs.alloc (.cells (strC s G T c d) 27)
  replace ho := ho.alloc (.cells (strC s G T c d) 27)
  have hB := (Below.refl w.heap.size w).alloc (Nat.le_refl _) (.cells (strC s G T c d) 27)
  obtain ⟨r, hr⟩ : ∃ r, r = revS s := ⟨_, rfl⟩
  obtain ⟨q, hq⟩ : ∃ q, q = os.reverse := ⟨_, rfl⟩
  obtain ⟨x, hx⟩ : ∃ x, x = bandN s os s.cy.toNat := ⟨_, rfl⟩
  obtain ⟨y, hy⟩ : ∃ y, y = bandN r q r.cy.toNat := ⟨_, rfl⟩
  have hrg := rev_good hg
  rw [← hr, ← hq] at hrg
  have hol : os.length ≤ 4 := by have := hg.ol; have := hg.g.g2; omega
  have hrl : r.gr.length ≤ 4 := hrg.g.g2
  have htl : r.tr.length ≤ 4 := by have := hrg.g.tl; omega
  have hb1 := bandN_bd s os s.cy.toNat
  have hb2 := bandN_bd r q r.cy.toNat
  rw [← hx] at hb1
  rw [← hy] at hb2
  have hc1 := hg.g.c1
  have hc2 := hg.g.c2
  have hd1 := hrg.g.c1
  have hd2 := hrg.g.c2
  have Hv := Lib.hid (show x + y = bothF s os by rw [hx, hy, hr, hq]; rfl)
  have Hr := Lib.hid hr
  have Hq := Lib.hid hq
  have Hx := Lib.hid hx
  have Hy := Lib.hid hy
  have Hg := Lib.hid hg
  have Hrg := Lib.hid hrg
  have hadd : IntKind.i64.wrap (x + y) = x + y := IntWalk.i64_in _ (by omega)
  have Hadd := Lib.hid hadd
  clear hr hq hx hy hg hrg hadd hb1 hb2 hc1 hc2 hd1 hd2
  go_enter Try.func53, Try.ntmps53
  go_wp2_with fail
  have z1 : w.heap.size < (w.alloc (.cells (strC s G T c d) 27)).heap.size := by simp
  generalize w.alloc (.cells (strC s G T c d) 27) = w1 at *
  obtain ⟨gb, hgb⟩ : ∃ gb, gb = w.heap.size := ⟨_, rfl⟩
  rw [← hgb] at bx
  simp only [← hgb]
  have Hgb := Lib.hid hgb
  clear hgb
  obtain ⟨S, hS⟩ : ∃ S : World → Prop, S = fun x => Blk x gb 27 (strC s G T c d) := ⟨_, rfl⟩
  have hS1 : ∀ x, S x → Blk x gb 27 (strC s G T c d) := fun x h => by rw [hS] at h; exact h
  have hS3 : ∀ x, Blk x gb 27 (strC s G T c d) → S x := fun x h1 => by rw [hS]; exact h1
  obtain ⟨k0, k1, k2⟩ := heldS hS1
  have HS3 := Lib.hid hS3
  clear hS hS1 hS3
  refine wp_region_mix S [(0, 0), (0, 1), (0, 3), (0, 5), (1, 2), (1, 4), (1, 6), (1, 7), (0, 8), (0, 9)] [] (by kernel_rfl) (by kernel_rfl) (HS3.out _ bx.drew) ?_
  intro hne1
  simp only [mixOps, List.filterMap_cons, List.filterMap_nil, List.getElem?_toArray, List.getElem?_cons_zero, List.getElem?_cons_succ, Option.map_some]
  replace bx := bx.drew
  replace hB := hB.drew
  replace hs := hs.drew
  replace ho := ho.drew
  have z1 : w.heap.size < w1.drew.heap.size := z1
  generalize w1.drew = wd at *
  repeat (refine mix_early (fun K hK => ?_); go_simp; refine hK _ ?_; clear hK K)
  clear k0 k1 k2
  refine mix_late rfl (fun K hK => ?_)
  go_wp2_with fail
  refine (sband_v s os x Hx G T O c d f _ hs ho Hg.out).mono ?_
  rintro e w2 ⟨rfl, v2⟩
  replace bx := bx.below v2 bx.lt
  replace hs := hs.below v2
  replace ho := ho.below v2
  replace hB := hB.trans (v2.mono (Nat.le_of_lt z1))
  have z2 := hB.size
  clear v2
  go_wp2_with fail
  refine ⟨HS3.out _ bx, ?_⟩
  refine mix_late rfl (fun K hK => ?_)
  go_wp2_with fail
  refine (sRevSt_r s r Hr G T c d _ hs Hg.out.g).mono ?_
  rintro e w3 ⟨G3, T3, c3, d3, rfl, y3, u3, -, v3⟩
  replace bx := bx.below v3 bx.lt
  replace ho := ho.below v3
  replace hB := hB.trans (v3.mono z2)
  have z3 := hB.size
  clear v3
  go_wp2_with fail
  refine ⟨HS3.out _ bx, ?_⟩
  refine mix_late rfl (fun K hK => ?_)
  go_wp2_with fail
  refine (sRev_r os q Hq O f _ ho (by omega)).mono ?_
  rintro e w4 ⟨A4, c4, rfl, y4, v4⟩
  replace bx := bx.below v4 bx.lt
  replace y3 := y3.below v4
  replace u3 := u3.below v4
  replace hB := hB.trans (v4.mono z3)
  have z4 := hB.size
  clear v4
  go_wp2_with fail
  refine ⟨HS3.out _ bx, ?_⟩
  refine mix_late rfl (fun K hK => ?_)
  go_wp2_with fail
  refine (sband_v r q y Hy G3 T3 A4 c3 d3 c4 _ ⟨y3.rd, u3.rd, by omega, by omega⟩ y4.rd Hrg.out).mono ?_
  rintro e w5 ⟨rfl, v5⟩
  replace bx := bx.below v5 bx.lt
  replace hB := hB.trans (v5.mono z4)
  clear v5 y3 u3 y4
  go_wp2_with fail
  refine ⟨HS3.out _ bx, ?_⟩
  have hadd := Hadd.out
  repeat (refine mix_early (fun K hK => ?_); go_simp; refine hK _ ?_; clear hK K)
  refine mix_nil ?_
  simp only [tailT, List.filterMap_nil]
  refine wpLateC_nil (NoPanic.normal ?_)
  clear hadd
  go_wp2_with fail
  go_ret
  exact ⟨ret_int Hv.out, hB⟩

set_option maxHeartbeats 1600000 in
theorem sTwo_any (s : St) (os : List Int) (G T O : Option Addr) (c d f : Nat) (w : World) (hs : RdS w s G T) (ho : RdL fI w O os) (no : os.length ≤ 2000000) :
    Calls Try.prog 33 #[strV s G T c d, .slice O os.length f] w fun e w' => e = .returned (.int .i64 (twoF s os)) ∧ Below w.heap.size w w' := by
  have bx := Blk.new w 27 (strC s G T c d)
  replace hs := hs.alloc (.cells (strC s G T c d) 27)
  replace ho := ho.alloc (.cells (strC s G T c d) 27)
  have hB := (Below.refl w.heap.size w).alloc (Nat.le_refl _) (.cells (strC s G T c d) 27)
  go_enter Try.func33, Try.ntmps33
  cases hv : validO s os with
  | false =>
    have H := Lib.hid (show -1 = twoF s os by simp [twoF, hv])
    go_wp2_with fail
    refine (sValidO_b false s os G T O c d f _ hv hs ho no).mono ?_
    rintro e w1 ⟨rfl, v0⟩
    replace hB := hB.trans (v0.mono (by simp))
    clear v0 hv
    go_wp2_with fail
    go_ret
    exact ⟨ret_int H.out, hB⟩
  | true =>
    have hg := validO_iff.mp hv
    have H := Lib.hid (bothF_two hv)
    go_wp2_with fail
    refine (sValidO_b true s os G T O c d f _ hv hs ho no).mono ?_
    rintro e w1 ⟨rfl, v0⟩
    replace bx := bx.below v0 bx.lt
    replace ho := ho.below v0
    replace hs := hs.below v0
    replace hB := hB.trans (v0.mono (by simp))
    have z1 : w.heap.size < w1.heap.size := bx.lt
    obtain ⟨k0, k1, k2⟩ := loadS bx
    clear v0 hv
    go_wp2_with fail
    refine (both_any s os G T O c d f _ hs ho hg).mono ?_
    rintro e w2 ⟨rfl, v1⟩
    replace hB := hB.trans (v1.mono (Nat.le_of_lt z1))
    clear v1 k0 k1 k2
    go_wp2_with fail
    go_ret
    exact ⟨ret_int H.out, hB⟩

theorem iRev_r (xs ys : List Int) (hy : Hid (ys = xs.reverse)) (A : Option Addr) (cap : Nat) (w : World) (hr : RdL fI w A xs) (hn : xs.length ≤ 900000) :
    Calls Try.prog 54 #[.slice none 0 0, .slice A xs.length cap] w (NewS fI 3 w ys) := by rw [hy.out]; exact iRev_any xs A cap w hr (by omega) hn
theorem iBand_w (s : St) (os : List Int) (v : Int) (hv : Hid (v = bandF s os)) (G T O : Option Addr) (c d f : Nat) (w : World) (hs : RdS w s G T) (ho : RdL fI w O os) (no : os.length ≤ 2000000) :
    Calls Try.prog 28 #[strV s G T c d, .slice O os.length f] w fun e w' => e = .returned (.int .i64 v) ∧ Below w.heap.size w w' := by rw [hv.out]; exact iBand_any s os G T O c d f w hs ho no
set_option maxHeartbeats 6400000 in
theorem iTwo_any (s : St) (os : List Int) (G T O : Option Addr) (c d f : Nat) (w : World) (hs : RdS w s G T) (ho : RdL fI w O os) (no : os.length ≤ 2000000) :
    Calls Try.prog 34 #[strV s G T c d, .slice O os.length f] w fun e w' => e = .returned (.int .i64 (twoF s os)) ∧ Below w.heap.size w w' := by
  have bx := Blk.new w 27 (strC s G T c d)
  have hB := (Below.refl w.heap.size w).alloc (Nat.le_refl _) (.cells (strC s G T c d) 27)
  go_enter Try.func34, Try.ntmps34
  cases hv : validO s os with
  | false =>
    have H := Lib.hid (show -1 = twoF s os by simp [twoF, hv])
    go_wp2_with fail
    refine (iValidO_b false s os G T O c d f _ hv (hs.below hB) (ho.below hB) no).mono ?_
    rintro e w1 ⟨rfl, v0⟩
    replace hB := hB.trans (v0.mono (by simp))
    clear v0 hv
    go_wp2_with fail
    go_ret
    exact ⟨ret_int H.out, hB⟩
  | true =>
    have hg := validO_iff.mp hv
    obtain ⟨r, hr⟩ : ∃ r, r = revS s := ⟨_, rfl⟩
    obtain ⟨q, hq⟩ : ∃ q, q = os.reverse := ⟨_, rfl⟩
    obtain ⟨x, hx⟩ : ∃ x, x = bandF s os := ⟨_, rfl⟩
    obtain ⟨y, hy⟩ : ∃ y, y = bandF r q := ⟨_, rfl⟩
    have hrg := rev_good hg
    rw [← hr, ← hq] at hrg
    have hol : os.length ≤ 4 := by have := hg.ol; have := hg.g.g2; omega
    have hql : q.length ≤ 4 := by have := hrg.ol; have := hrg.g.g2; omega
    have hsl : s.gr.length ≤ 4 := hg.g.g2
    have hsm : s.tr.length ≤ 4 := by have := hg.g.tl; omega
    have hrl : r.gr.length ≤ 4 := hrg.g.g2
    have htl : r.tr.length ≤ 4 := by have := hrg.g.tl; omega
    have hb1 := band_nonneg hg
    have hb2 := band_nonneg hrg
    rw [← hx] at hb1
    rw [← hy] at hb2
    have Hv := Lib.hid (show x + y = twoF s os by rw [twoF, if_pos hv, hx, hy, hr, hq])
    have Hgr := Lib.hid (show r.gr = s.gr.reverse by rw [hr]; rfl)
    have Htr := Lib.hid (show r.tr = s.tr.reverse by rw [hr]; rfl)
    have Hcy := Lib.hid (show r.cy = s.cy by rw [hr]; rfl)
    have Hq := Lib.hid hq
    have Hx := Lib.hid hx
    have Hy := Lib.hid hy
    have Hadd := Lib.hid (show IntKind.i64.wrap (x + y) = x + y from IntWalk.i64_in _ (by omega))
    clear hr hq hx hy hrg hb1 hb2 hg
    go_wp2_with fail
    refine (iValidO_b true s os G T O c d f _ hv (hs.below hB) (ho.below hB) no).mono ?_
    rintro e w1 ⟨rfl, v0⟩
    replace bx := bx.below v0 bx.lt
    replace hB := hB.trans (v0.mono (by simp))
    have z1 : w.heap.size < w1.heap.size := bx.lt
    obtain ⟨k0, k1, k2⟩ := loadS bx
    clear v0 hv
    go_wp2_with fail
    clear k0 k1 k2
    obtain ⟨gb, hgb⟩ : ∃ gb, gb = w.heap.size := ⟨_, rfl⟩
    rw [← hgb] at bx z1
    simp only [← hgb]
    have hgw : w.heap.size ≤ gb := by omega
    have hgw2 : gb ≤ w.heap.size := by omega
    clear hgb
    obtain ⟨S, hS⟩ : ∃ S : World → Prop, S = fun x => Blk x gb 27 (strC s G T c d) := ⟨_, rfl⟩
    have hS1 : ∀ x, S x → Blk x gb 27 (strC s G T c d) := fun x h => by rw [hS] at h; exact h
    have hS3 : ∀ x, Blk x gb 27 (strC s G T c d) → S x := fun x h1 => by rw [hS]; exact h1
    obtain ⟨k0, k1, k2⟩ := heldS hS1
    have HS3 := Lib.hid hS3
    clear hS hS1 hS3
    refine wp_region_tree S (.early 0 (.early 1 (.early 2 (.early 3 (.early 5 (.early 6 (.two 4 (.two 7 (.early 8 (.one 9 (.one 10 .done))) 9 (.one 7 (.early 8 (.one 10 .done)))) 9 (.one 4 (.one 7 (.early 8 (.one 10 .done))))))))))) (by kernel_rfl) (by kernel_rfl) (HS3.out _ bx.drew) ?_
    intro hne1
    simp only [PT.ops, List.getElem?_toArray, List.getElem?_cons_zero, List.getElem?_cons_succ]
    replace bx := bx.drew
    replace hB := hB.drew
    have z1 : gb < w1.drew.heap.size := z1
    generalize w1.drew = wd at *
    repeat (refine tr_early (fun K hK => ?_); go_simp; refine hK _ ?_; clear hK K)
    have Hbx := Lib.hid bx
    clear bx k0 k1 k2
    refine tr_two ?_ ?_
    · refine tr_one rfl (fun K hK => ?_)
      go_wp2_with fail
      refine (iRev_r s.gr r.gr Hgr G c _ (hs.hg.below hB) (by omega)).mono ?_
      rintro e w2 ⟨G2, c2, rfl, y2, v2⟩
      have bx := Hbx.out.below v2 Hbx.out.lt
      replace hB := hB.trans (v2.mono hB.size)
      have z2 := v2.size
      have l2 := y2.lt
      clear v2 Hbx
      go_wp2_with fail
      refine ⟨HS3.out _ bx, ?_⟩
      have Hbx := Lib.hid bx
      clear bx
      refine tr_two ?_ ?_
      · refine tr_one rfl (fun K hK => ?_)
        go_wp2_with fail
        refine (iRev_r s.tr r.tr Htr T d _ (hs.ht.below hB) (by omega)).mono ?_
        rintro e w3 ⟨T3, d3, rfl, u2, v3⟩
        have bx := Hbx.out.below v3 Hbx.out.lt
        replace y2 := (y2.below v3).mono (lo' := 0) (Nat.zero_le _)
        have m2 := u2.lt
        replace u2 := u2.mono (lo' := 0) (Nat.zero_le _)
        replace hB := hB.trans (v3.mono hB.size)
        have z3 := v3.size
        clear v3 Hbx
        go_wp2_with fail
        refine ⟨HS3.out _ bx, ?_⟩
        repeat (refine tr_early (fun K hK => ?_); go_simp; refine hK _ ?_; clear hK K)
        have b5 := Blk.new w3 27 (strC ⟨s.cy, r.gr, r.tr⟩ G2 T3 c2 d3)
        have h5a := bx.lt
        refine tr_one rfl (fun K hK => ?_)
        go_wp2_with fail
        refine ⟨HS3.out _ (bx.alloc _), ?_⟩
        refine tr_one rfl (fun K hK => ?_)
        go_wp2_with fail
        refine ⟨HS3.out _ (bx.alloc _), ?_⟩
        refine tr_done (NoPanic.normal ?_)
        replace bx := bx.alloc (.cells (strC ⟨s.cy, r.gr, r.tr⟩ G2 T3 c2 d3) 27)
        replace y2 := y2.alloc (.cells (strC ⟨s.cy, r.gr, r.tr⟩ G2 T3 c2 d3) 27)
        replace u2 := u2.alloc (.cells (strC ⟨s.cy, r.gr, r.tr⟩ G2 T3 c2 d3) 27)
        replace hB := hB.alloc hB.size (.cells (strC ⟨s.cy, r.gr, r.tr⟩ G2 T3 c2 d3) 27)
        generalize w3.alloc (.cells (strC ⟨s.cy, r.gr, r.tr⟩ G2 T3 c2 d3) 27) = wz at *
        generalize w3.heap.size = g5 at *
        have hgg : gb ≠ g5 := by omega
        have RR : RdS wz r G2 T3 := ⟨y2.rd, u2.rd, by omega, by omega⟩
        have b5 : Blk wz g5 27 (strC r G2 T3 c2 d3) := by rw [strC, Hcy.out]; exact b5
        clear y2 u2 HS3
        go_wp2_with fail
        obtain ⟨S2, hS⟩ : ∃ S2 : World → Prop, S2 = fun x => Blk x gb 27 (strC s G T c d) ∧ Blk x g5 27 (strC r G2 T3 c2 d3) := ⟨_, rfl⟩
        have hS1 : ∀ x, S2 x → Blk x gb 27 (strC s G T c d) := fun x h => by rw [hS] at h; exact h.1
        have hS2 : ∀ x, S2 x → Blk x g5 27 (strC r G2 T3 c2 d3) := fun x h => by rw [hS] at h; exact h.2
        have hS3 : ∀ x, Blk x gb 27 (strC s G T c d) → Blk x g5 27 (strC r G2 T3 c2 d3) → S2 x := fun x h1 h2 => by rw [hS]; exact ⟨h1, h2⟩
        obtain ⟨k0, k1, k2⟩ := heldS hS1
        obtain ⟨j0, j1, j2⟩ := heldS hS2
        have HS4 := Lib.hid hS3
        clear hS hS1 hS2 hS3
        refine wp_region_mix S2 [(0, 0), (0, 1), (0, 3), (0, 4), (1, 2), (1, 5), (1, 6), (0, 7), (0, 8)] [] (by kernel_rfl) (by kernel_rfl) (HS4.out _ bx.drew b5.drew) ?_
        intro hne2
        simp only [mixOps, List.filterMap_cons, List.filterMap_nil, List.getElem?_toArray, List.getElem?_cons_zero, List.getElem?_cons_succ, Option.map_some]
        replace bx := bx.drew
        replace b5 := b5.drew
        replace hB := hB.drew
        replace RR := RR.drew
        generalize wz.drew = we at *
        repeat (refine mix_early (fun K hK => ?_); go_simp; refine hK _ ?_; clear hK K)
        clear k0 k1 k2 j0 j1 j2
        refine mix_late rfl (fun K hK => ?_)
        go_wp2_with fail
        refine (iBand_w s os x Hx G T O c d f _ (hs.below hB) (ho.below hB) no).mono ?_
        rintro e w5 ⟨rfl, v5⟩
        replace bx := bx.below v5 bx.lt
        replace b5 := b5.below v5 b5.lt
        replace RR := RR.below v5
        replace hB := hB.trans (v5.mono hB.size)
        clear v5
        go_wp2_with fail
        refine ⟨HS4.out _ bx b5, ?_⟩
        refine mix_late rfl (fun K hK => ?_)
        go_wp2_with fail
        refine (iRev_r os q Hq O f _ (ho.below hB) (by omega)).mono ?_
        rintro e w6 ⟨Q6, q6, rfl, y6, v6⟩
        replace bx := bx.below v6 bx.lt
        replace b5 := b5.below v6 b5.lt
        replace RR := RR.below v6
        replace hB := hB.trans (v6.mono hB.size)
        clear v6
        go_wp2_with fail
        refine ⟨HS4.out _ bx b5, ?_⟩
        refine mix_late rfl (fun K hK => ?_)
        go_wp2_with fail
        refine (iBand_w r q y Hy G2 T3 Q6 c2 d3 q6 _ RR y6.rd (by omega)).mono ?_
        rintro e w7 ⟨rfl, v7⟩
        replace bx := bx.below v7 bx.lt
        replace b5 := b5.below v7 b5.lt
        replace hB := hB.trans (v7.mono hB.size)
        clear v7 y6 RR
        go_wp2_with fail
        refine ⟨HS4.out _ bx b5, ?_⟩
        have hadd := Hadd.out
        repeat (refine mix_early (fun K hK => ?_); go_simp; refine hK _ ?_; clear hK K)
        refine mix_nil ?_
        simp only [tailT, List.filterMap_nil]
        refine wpLateC_nil (NoPanic.normal ?_)
        clear hadd
        go_wp2_with fail
        go_ret
        exact ⟨ret_int Hv.out, hB⟩
      · refine tr_one rfl (fun K hK => ?_)
        go_wp2_with fail
        have bx := Hbx.out.alloc (.cells strZ 27)
        have b5 := Blk.new w2 27 strZ
        replace y2 := y2.alloc (.cells strZ 27)
        replace hB := hB.alloc hB.size (.cells strZ 27)
        have h5a := Hbx.out.lt
        have h5b : w2.heap.size < (w2.alloc (.cells strZ 27)).heap.size := by simp
        refine ⟨HS3.out _ bx, ?_⟩
        obtain ⟨g5, hg5⟩ : ∃ g5, g5 = w2.heap.size := ⟨_, rfl⟩
        rw [← hg5] at b5 h5a h5b
        simp only [← hg5]
        have hg5a : w2.heap.size ≤ g5 := by omega
        clear hg5
        generalize w2.alloc (.cells strZ 27) = wa at *
        have hgw5 : w.heap.size ≤ g5 := by omega
        clear Hbx
        have Hbx := Lib.hid bx
        clear bx
        refine tr_one rfl (fun K hK => ?_)
        go_wp2_with fail
        refine (iRev_r s.tr r.tr Htr T d _ (hs.ht.below hB) (by omega)).mono ?_
        rintro e w3 ⟨T3, d3, rfl, u2, v3⟩
        have bx := Hbx.out.below v3 Hbx.out.lt
        replace b5 := b5.below v3 b5.lt
        replace y2 := (y2.below v3).mono (lo' := 0) (Nat.zero_le _)
        have m2 := u2.lt
        replace u2 := u2.mono (lo' := 0) (Nat.zero_le _)
        replace hB := hB.trans (v3.mono hB.size)
        have z3 := v3.size
        clear v3 Hbx
        go_wp2_with fail
        refine ⟨HS3.out _ bx, ?_⟩
        repeat (refine tr_early (fun K hK => ?_); go_simp; refine hK _ ?_; clear hK K)
        have e0 := b5.cell 0
        have e1 := b5.cell 1
        have e2 := b5.cell 2
        have ef := b5.frozen
        simp at e0 e1 e2
        refine tr_one rfl (fun K hK => ?_)
        go_wp2_with fail
        clear e0 e1 e2 ef
        replace b5 := b5.set3 (v0 := .int .i64 s.cy) (v1 := .slice G2 r.gr.length c2) (v2 := .slice T3 r.tr.length d3)
        replace bx := far3 bx (g' := g5) (v0 := .int .i64 s.cy) (v1 := .slice G2 r.gr.length c2) (v2 := .slice T3 r.tr.length d3) (by omega)
        replace y2 := own_set3 (g := g5) (v0 := .int .i64 s.cy) (v1 := .slice G2 r.gr.length c2) (v2 := .slice T3 r.tr.length d3) y2 (fun b h => by have := l2 b h; omega)
        replace u2 := own_set3 (g := g5) (v0 := .int .i64 s.cy) (v1 := .slice G2 r.gr.length c2) (v2 := .slice T3 r.tr.length d3) u2 (fun b h => by have := m2 b h; omega)
        replace hB := below_set3 (g := g5) (v0 := .int .i64 s.cy) (v1 := .slice G2 r.gr.length c2) (v2 := .slice T3 r.tr.length d3) hB (by omega)
        refine ⟨HS3.out _ bx, ?_⟩
        refine tr_done (NoPanic.normal ?_)
        simp only [set3] at b5 bx y2 u2 hB
        generalize ((w3.setCell ⟨g5, 0, none⟩ (.int .i64 s.cy)).setCell ⟨g5, 1, none⟩ (.slice G2 r.gr.length c2)).setCell ⟨g5, 2, none⟩ (.slice T3 r.tr.length d3) = wz at *
        have hgg : gb ≠ g5 := by omega
        have RR : RdS wz r G2 T3 := ⟨y2.rd, u2.rd, by omega, by omega⟩
        have b5 : Blk wz g5 27 (strC r G2 T3 c2 d3) := by rw [strC, Hcy.out]; exact b5
        clear y2 u2 HS3
        go_wp2_with fail
        obtain ⟨S2, hS⟩ : ∃ S2 : World → Prop, S2 = fun x => Blk x gb 27 (strC s G T c d) ∧ Blk x g5 27 (strC r G2 T3 c2 d3) := ⟨_, rfl⟩
        have hS1 : ∀ x, S2 x → Blk x gb 27 (strC s G T c d) := fun x h => by rw [hS] at h; exact h.1
        have hS2 : ∀ x, S2 x → Blk x g5 27 (strC r G2 T3 c2 d3) := fun x h => by rw [hS] at h; exact h.2
        have hS3 : ∀ x, Blk x gb 27 (strC s G T c d) → Blk x g5 27 (strC r G2 T3 c2 d3) → S2 x := fun x h1 h2 => by rw [hS]; exact ⟨h1, h2⟩
        obtain ⟨k0, k1, k2⟩ := heldS hS1
        obtain ⟨j0, j1, j2⟩ := heldS hS2
        have HS4 := Lib.hid hS3
        clear hS hS1 hS2 hS3
        refine wp_region_mix S2 [(0, 0), (0, 1), (0, 3), (0, 4), (1, 2), (1, 5), (1, 6), (0, 7), (0, 8)] [] (by kernel_rfl) (by kernel_rfl) (HS4.out _ bx.drew b5.drew) ?_
        intro hne2
        simp only [mixOps, List.filterMap_cons, List.filterMap_nil, List.getElem?_toArray, List.getElem?_cons_zero, List.getElem?_cons_succ, Option.map_some]
        replace bx := bx.drew
        replace b5 := b5.drew
        replace hB := hB.drew
        replace RR := RR.drew
        generalize wz.drew = we at *
        repeat (refine mix_early (fun K hK => ?_); go_simp; refine hK _ ?_; clear hK K)
        clear k0 k1 k2 j0 j1 j2
        refine mix_late rfl (fun K hK => ?_)
        go_wp2_with fail
        refine (iBand_w s os x Hx G T O c d f _ (hs.below hB) (ho.below hB) no).mono ?_
        rintro e w5 ⟨rfl, v5⟩
        replace bx := bx.below v5 bx.lt
        replace b5 := b5.below v5 b5.lt
        replace RR := RR.below v5
        replace hB := hB.trans (v5.mono hB.size)
        clear v5
        go_wp2_with fail
        refine ⟨HS4.out _ bx b5, ?_⟩
        refine mix_late rfl (fun K hK => ?_)
        go_wp2_with fail
        refine (iRev_r os q Hq O f _ (ho.below hB) (by omega)).mono ?_
        rintro e w6 ⟨Q6, q6, rfl, y6, v6⟩
        replace bx := bx.below v6 bx.lt
        replace b5 := b5.below v6 b5.lt
        replace RR := RR.below v6
        replace hB := hB.trans (v6.mono hB.size)
        clear v6
        go_wp2_with fail
        refine ⟨HS4.out _ bx b5, ?_⟩
        refine mix_late rfl (fun K hK => ?_)
        go_wp2_with fail
        refine (iBand_w r q y Hy G2 T3 Q6 c2 d3 q6 _ RR y6.rd (by omega)).mono ?_
        rintro e w7 ⟨rfl, v7⟩
        replace bx := bx.below v7 bx.lt
        replace b5 := b5.below v7 b5.lt
        replace hB := hB.trans (v7.mono hB.size)
        clear v7 y6 RR
        go_wp2_with fail
        refine ⟨HS4.out _ bx b5, ?_⟩
        have hadd := Hadd.out
        repeat (refine mix_early (fun K hK => ?_); go_simp; refine hK _ ?_; clear hK K)
        refine mix_nil ?_
        simp only [tailT, List.filterMap_nil]
        refine wpLateC_nil (NoPanic.normal ?_)
        clear hadd
        go_wp2_with fail
        go_ret
        exact ⟨ret_int Hv.out, hB⟩
    · refine tr_one rfl (fun K hK => ?_)
      go_wp2_with fail
      have bx := Hbx.out.alloc (.cells strZ 27)
      have b5 := Blk.new wd 27 strZ
      replace hB := hB.alloc hB.size (.cells strZ 27)
      have h5a := Hbx.out.lt
      have h5b : wd.heap.size < (wd.alloc (.cells strZ 27)).heap.size := by simp
      refine ⟨HS3.out _ bx, ?_⟩
      obtain ⟨g5, hg5⟩ : ∃ g5, g5 = wd.heap.size := ⟨_, rfl⟩
      rw [← hg5] at b5 h5a h5b
      simp only [← hg5]
      have hg5a : wd.heap.size ≤ g5 := by omega
      clear hg5
      generalize wd.alloc (.cells strZ 27) = wa at *
      have hgw5 : w.heap.size ≤ g5 := by omega
      clear Hbx
      have Hbx := Lib.hid bx
      clear bx
      refine tr_one rfl (fun K hK => ?_)
      go_wp2_with fail
      refine (iRev_r s.gr r.gr Hgr G c _ (hs.hg.below hB) (by omega)).mono ?_
      rintro e w2 ⟨G2, c2, rfl, y2, v2⟩
      have bx := Hbx.out.below v2 Hbx.out.lt
      replace b5 := b5.below v2 b5.lt
      replace hB := hB.trans (v2.mono hB.size)
      have z2 := v2.size
      have l2 := y2.lt
      clear v2 Hbx
      go_wp2_with fail
      refine ⟨HS3.out _ bx, ?_⟩
      have Hbx := Lib.hid bx
      clear bx
      refine tr_one rfl (fun K hK => ?_)
      go_wp2_with fail
      refine (iRev_r s.tr r.tr Htr T d _ (hs.ht.below hB) (by omega)).mono ?_
      rintro e w3 ⟨T3, d3, rfl, u2, v3⟩
      have bx := Hbx.out.below v3 Hbx.out.lt
      replace b5 := b5.below v3 b5.lt
      replace y2 := (y2.below v3).mono (lo' := 0) (Nat.zero_le _)
      have m2 := u2.lt
      replace u2 := u2.mono (lo' := 0) (Nat.zero_le _)
      replace hB := hB.trans (v3.mono hB.size)
      have z3 := v3.size
      clear v3 Hbx
      go_wp2_with fail
      refine ⟨HS3.out _ bx, ?_⟩
      repeat (refine tr_early (fun K hK => ?_); go_simp; refine hK _ ?_; clear hK K)
      have e0 := b5.cell 0
      have e1 := b5.cell 1
      have e2 := b5.cell 2
      have ef := b5.frozen
      simp at e0 e1 e2
      refine tr_one rfl (fun K hK => ?_)
      go_wp2_with fail
      clear e0 e1 e2 ef
      replace b5 := b5.set3 (v0 := .int .i64 s.cy) (v1 := .slice G2 r.gr.length c2) (v2 := .slice T3 r.tr.length d3)
      replace bx := far3 bx (g' := g5) (v0 := .int .i64 s.cy) (v1 := .slice G2 r.gr.length c2) (v2 := .slice T3 r.tr.length d3) (by omega)
      replace y2 := own_set3 (g := g5) (v0 := .int .i64 s.cy) (v1 := .slice G2 r.gr.length c2) (v2 := .slice T3 r.tr.length d3) y2 (fun b h => by have := l2 b h; omega)
      replace u2 := own_set3 (g := g5) (v0 := .int .i64 s.cy) (v1 := .slice G2 r.gr.length c2) (v2 := .slice T3 r.tr.length d3) u2 (fun b h => by have := m2 b h; omega)
      replace hB := below_set3 (g := g5) (v0 := .int .i64 s.cy) (v1 := .slice G2 r.gr.length c2) (v2 := .slice T3 r.tr.length d3) hB (by omega)
      refine ⟨HS3.out _ bx, ?_⟩
      refine tr_done (NoPanic.normal ?_)
      simp only [set3] at b5 bx y2 u2 hB
      generalize ((w3.setCell ⟨g5, 0, none⟩ (.int .i64 s.cy)).setCell ⟨g5, 1, none⟩ (.slice G2 r.gr.length c2)).setCell ⟨g5, 2, none⟩ (.slice T3 r.tr.length d3) = wz at *
      have hgg : gb ≠ g5 := by omega
      have RR : RdS wz r G2 T3 := ⟨y2.rd, u2.rd, by omega, by omega⟩
      have b5 : Blk wz g5 27 (strC r G2 T3 c2 d3) := by rw [strC, Hcy.out]; exact b5
      clear y2 u2 HS3
      go_wp2_with fail
      obtain ⟨S2, hS⟩ : ∃ S2 : World → Prop, S2 = fun x => Blk x gb 27 (strC s G T c d) ∧ Blk x g5 27 (strC r G2 T3 c2 d3) := ⟨_, rfl⟩
      have hS1 : ∀ x, S2 x → Blk x gb 27 (strC s G T c d) := fun x h => by rw [hS] at h; exact h.1
      have hS2 : ∀ x, S2 x → Blk x g5 27 (strC r G2 T3 c2 d3) := fun x h => by rw [hS] at h; exact h.2
      have hS3 : ∀ x, Blk x gb 27 (strC s G T c d) → Blk x g5 27 (strC r G2 T3 c2 d3) → S2 x := fun x h1 h2 => by rw [hS]; exact ⟨h1, h2⟩
      obtain ⟨k0, k1, k2⟩ := heldS hS1
      obtain ⟨j0, j1, j2⟩ := heldS hS2
      have HS4 := Lib.hid hS3
      clear hS hS1 hS2 hS3
      refine wp_region_mix S2 [(0, 0), (0, 1), (0, 3), (0, 4), (1, 2), (1, 5), (1, 6), (0, 7), (0, 8)] [] (by kernel_rfl) (by kernel_rfl) (HS4.out _ bx.drew b5.drew) ?_
      intro hne2
      simp only [mixOps, List.filterMap_cons, List.filterMap_nil, List.getElem?_toArray, List.getElem?_cons_zero, List.getElem?_cons_succ, Option.map_some]
      replace bx := bx.drew
      replace b5 := b5.drew
      replace hB := hB.drew
      replace RR := RR.drew
      generalize wz.drew = we at *
      repeat (refine mix_early (fun K hK => ?_); go_simp; refine hK _ ?_; clear hK K)
      clear k0 k1 k2 j0 j1 j2
      refine mix_late rfl (fun K hK => ?_)
      go_wp2_with fail
      refine (iBand_w s os x Hx G T O c d f _ (hs.below hB) (ho.below hB) no).mono ?_
      rintro e w5 ⟨rfl, v5⟩
      replace bx := bx.below v5 bx.lt
      replace b5 := b5.below v5 b5.lt
      replace RR := RR.below v5
      replace hB := hB.trans (v5.mono hB.size)
      clear v5
      go_wp2_with fail
      refine ⟨HS4.out _ bx b5, ?_⟩
      refine mix_late rfl (fun K hK => ?_)
      go_wp2_with fail
      refine (iRev_r os q Hq O f _ (ho.below hB) (by omega)).mono ?_
      rintro e w6 ⟨Q6, q6, rfl, y6, v6⟩
      replace bx := bx.below v6 bx.lt
      replace b5 := b5.below v6 b5.lt
      replace RR := RR.below v6
      replace hB := hB.trans (v6.mono hB.size)
      clear v6
      go_wp2_with fail
      refine ⟨HS4.out _ bx b5, ?_⟩
      refine mix_late rfl (fun K hK => ?_)
      go_wp2_with fail
      refine (iBand_w r q y Hy G2 T3 Q6 c2 d3 q6 _ RR y6.rd (by omega)).mono ?_
      rintro e w7 ⟨rfl, v7⟩
      replace bx := bx.below v7 bx.lt
      replace b5 := b5.below v7 b5.lt
      replace hB := hB.trans (v7.mono hB.size)
      clear v7 y6 RR
      go_wp2_with fail
      refine ⟨HS4.out _ bx b5, ?_⟩
      have hadd := Hadd.out
      repeat (refine mix_early (fun K hK => ?_); go_simp; refine hK _ ?_; clear hK K)
      refine mix_nil ?_
      simp only [tailT, List.filterMap_nil]
      refine wpLateC_nil (NoPanic.normal ?_)
      clear hadd
      go_wp2_with fail
      go_ret
      exact ⟨ret_int Hv.out, hB⟩
end Go.Proofs.Ytmnapeefclkldaa
