/-
  The statement FnTwoWayBand: both directions count alike.
-/
import Derived.Test.YtmnapeefclkldaaStFn
import Derived.Test.YtmnapeefclkldaaStFn2
namespace Go.Proofs.Ytmnapeefclkldaa.FnTwoWayBand
open Go.RowKit Go.ChangeShapes Go.WideShapes Go.ChangeAt Go.Proofs.Ytmnapeefclkldaa
set_option linter.unusedVariables false

set_option maxHeartbeats 6400000 in
theorem walk (A : Option Addr) (len cap : Nat) (w : World) (h : Bytes w A len) (hc : len ≤ cap) :
    Calls Try.prog 13 #[.slice A len cap] w fun e w' => e = .returned (.bool true) ∧ Below w.heap.size w w' := by
  by_cases hl1 : 1048576 < len
  · go_enter Try.func13, Try.ntmps13
    go_wp2_with fail
    go_ret
    exact ⟨rfl, Below.refl _ _⟩
  go_enter Try.func13, Try.ntmps13
  go_wp2_with fail
  refine (drawTwo_any _ A len cap h hc).mono ?_
  rintro e w1 ⟨s, os, G, T, O, c, d, f, rfl, ⟨hs, lg, lt, nG, nT, cG, cT⟩, ho, nO, cO, lo, v1⟩
  have hB := v1
  have bs := Blk.new w1 27 (strC s G T c d)
  replace hs := hs.alloc (.cells (strC s G T c d) 27)
  replace ho := ho.alloc (.cells (strC s G T c d) 27)
  replace hB := hB.alloc hB.size (.cells (strC s G T c d) 27)
  have hgs0 : w.heap.size ≤ w1.heap.size := v1.size
  clear v1
  clear h
  cases hv : validO s os with
  | false =>
    have Hn := Lib.hid (show (-1 : Int) = twoF s os by simp [twoF, hv])
    clear hv
    go_wp2_with fail
    generalize w1.alloc (.cells (strC s G T c d) 27) = wb at *
    obtain ⟨gs, hgs⟩ : ∃ gs, gs = w1.heap.size := ⟨_, rfl⟩
    rw [← hgs] at bs hgs0
    simp only [← hgs]
    clear hgs
    refine (iTwo_v s os (-1) Hn G T O c d f _ hs ho (by omega)).mono ?_
    rintro e w2 ⟨rfl, v2⟩
    replace bs := bs.below v2 bs.lt
    replace hs := hs.below v2
    replace ho := ho.below v2
    replace hB := hB.trans (v2.mono hB.size)
    clear v2
    obtain ⟨k0, k1, k2⟩ := loadS bs
    go_wp2_with fail
    refine (sTwo_v s os (-1) Hn G T O c d f _ hs ho (by omega)).mono ?_
    rintro e w3 ⟨rfl, v3⟩
    replace bs := bs.below v3 bs.lt
    replace hs := hs.below v3
    replace ho := ho.below v3
    replace hB := hB.trans (v3.mono hB.size)
    clear v3
    clear k0 k1 k2
    obtain ⟨k0, k1, k2⟩ := loadS bs
    go_wp2_with fail
    refine (sTwo_v s os (-1) Hn G T O c d f _ hs ho (by omega)).mono ?_
    rintro e w4 ⟨rfl, v4⟩
    replace bs := bs.below v4 bs.lt
    replace hs := hs.below v4
    replace ho := ho.below v4
    replace hB := hB.trans (v4.mono hB.size)
    clear v4
    clear k0 k1 k2
    go_wp2_with fail
    go_ret
    exact ⟨rfl, hB⟩
  | true =>
    have hg := validO_iff.mp hv
    have hrg := rev_good hg
    obtain ⟨x, hx⟩ : ∃ x, x = bandF s os := ⟨_, rfl⟩
    obtain ⟨y, hy⟩ : ∃ y, y = bandF (revS s) os.reverse := ⟨_, rfl⟩
    obtain ⟨n, hn⟩ : ∃ n, n = x + y := ⟨_, rfl⟩
    have hnt : n = twoF s os := by rw [hn, hx, hy]; simp [twoF, hv]
    have hnx := band_nonneg hg
    have hny := band_nonneg hrg
    rw [← hx] at hnx
    rw [← hy] at hny
    have Hn := Lib.hid hnt
    have Hx := Lib.hid hx
    have Hy := Lib.hid hy
    have Hr := Lib.hid (show n = twoF (revS s) os.reverse by rw [two_rev hg]; exact hnt)
    have hnb : 0 ≤ n := by omega
    have Hadd := Lib.hid (show IntKind.i64.wrap (x + y) = n by rw [hn]; exact IntWalk.i64_in _ (by omega))
    have hgr4 := hg.g.g2
    have hgr1 := hg.g.g1
    have hol4 : os.length ≤ 4 := by have := hg.ol; omega
    have htl := Lib.hid hg.g.tl
    have hol := Lib.hid hg.ol
    clear hn hnt hg hv hrg hx hy
    go_wp2_with fail
    generalize w1.alloc (.cells (strC s G T c d) 27) = wb at *
    obtain ⟨gs, hgs⟩ : ∃ gs, gs = w1.heap.size := ⟨_, rfl⟩
    rw [← hgs] at bs hgs0
    simp only [← hgs]
    clear hgs
    have hX := Below.refl wb.heap.size wb
    refine (iTwo_v s os n Hn G T O c d f _ (hs.below hX) (ho.below hX) (by omega)).mono ?_
    rintro e w2 ⟨rfl, v2⟩
    replace hX := hX.trans (v2.mono hX.size)
    clear v2
    obtain ⟨k0, k1, k2⟩ := loadS (bs.below hX bs.lt)
    go_wp2_with fail
    refine (sTwo_v s os n Hn G T O c d f _ (hs.below hX) (ho.below hX) (by omega)).mono ?_
    rintro e w3 ⟨rfl, v3⟩
    replace hX := hX.trans (v3.mono hX.size)
    clear v3
    clear k0 k1 k2
    obtain ⟨k0, k1, k2⟩ := loadS (bs.below hX bs.lt)
    obtain ⟨i0, hi0, hz0', hz1, hz2⟩ := info_parts info_Int
    have hw3 := hX.size
    have r0 := ((((Blk.new w3 27 #[.int .i64 s.cy, .slice none 0 0, .slice none 0 0]).alloc (.cells #[] 3)).alloc (.cells #[] 3)).alloc (.cells #[] 3))
    have hX0 := (((hX.alloc hw3 (.cells #[.int .i64 s.cy, .slice none 0 0, .slice none 0 0] 27)).alloc (by simp; omega) (.cells #[] 3)).alloc (by simp; omega) (.cells #[] 3)).alloc (by simp; omega) (.cells #[] 3)
    have oA0 := (((OwnL.of_cap (lo := w3.heap.size + 1) fI (Blk.new (w3.alloc (.cells #[.int .i64 s.cy, .slice none 0 0, .slice none 0 0] 27)) 3 #[]) (by simp) rfl (by simp [maxLen])).alloc (.cells #[] 3)).alloc (.cells #[] 3)).o
    have oC0 := ((OwnL.of_cap (lo := w3.heap.size + 1) fI (Blk.new ((w3.alloc (.cells #[.int .i64 s.cy, .slice none 0 0, .slice none 0 0] 27)).alloc (.cells #[] 3)) 3 #[]) (by simp) rfl (by simp [maxLen])).alloc (.cells #[] 3)).o
    have oE0 := (OwnL.of_cap (lo := w3.heap.size + 1) fI (Blk.new (((w3.alloc (.cells #[.int .i64 s.cy, .slice none 0 0, .slice none 0 0] 27)).alloc (.cells #[] 3)).alloc (.cells #[] 3)) 3 #[]) (by simp) rfl (by simp [maxLen])).o
    simp only [World.size_alloc] at oA0 oC0 oE0
    have sAC0 : Sep (some ⟨w3.heap.size + 1, 0, none⟩) (some ⟨w3.heap.size + 1 + 1, 0, none⟩) := by intro b h1 h2; simp at h1 h2; omega
    have sAE0 : Sep (some ⟨w3.heap.size + 1, 0, none⟩) (some ⟨w3.heap.size + 1 + 1 + 1, 0, none⟩) := by intro b h1 h2; simp at h1 h2; omega
    have sCE0 : Sep (some ⟨w3.heap.size + 1 + 1, 0, none⟩) (some ⟨w3.heap.size + 1 + 1 + 1, 0, none⟩) := by intro b h1 h2; simp at h1 h2; omega
    obtain ⟨m0, m1, m2⟩ := loadS (bs.below hX0 bs.lt)
    clear hX
    go_wp2_with fail
    clear k0 k1 k2 m0 m1 m2
    generalize (((w3.alloc (.cells #[.int .i64 s.cy, .slice none 0 0, .slice none 0 0] 27)).alloc (.cells #[] 3)).alloc (.cells #[] 3)).alloc (.cells #[] 3) = w4 at *
    obtain ⟨gb, hgb⟩ : ∃ gb, gb = w3.heap.size := ⟨_, rfl⟩
    rw [← hgb] at r0 oA0 oC0 oE0 hw3 sAC0 sAE0 sCE0
    simp only [← hgb]
    clear hgb
    have hz0 := hz0'
    clear hz0'
    go_loopw [7, 8, 9, 10] (fun v7 v8 v9 vi wr => ∃ m : Nat, m ≤ s.gr.length ∧ vi = .int .i64 ((m : Int) - 1) ∧ (∃ AA0 cA0 xs AC0 cC0 ys AE0 cE0 zs, v7 = .slice AA0 xs.length cA0 ∧ v8 = .slice AC0 ys.length cC0 ∧ v9 = .slice AE0 zs.length cE0 ∧ OwnO fI wr (gb + 1) 3 AA0 cA0 xs ∧ OwnO fI wr (gb + 1) 3 AC0 cC0 ys ∧ OwnO fI wr (gb + 1) 3 AE0 cE0 zs ∧ Sep AA0 AC0 ∧ Sep AA0 AE0 ∧ Sep AC0 AE0 ∧ Hid (xs = (s.gr.drop m).reverse) ∧ Hid (ys = (s.tr.drop (m - 1)).reverse) ∧ Hid (zs = (os.drop m).reverse)) ∧ Blk wr gb 27 #[.int .i64 s.cy, .slice none 0 0, .slice none 0 0] ∧ Below wb.heap.size wb wr) (fun _ _ _ vi _ => (intOf vi + 1).toNat)
    case atStart => exact ⟨s.gr.length, Nat.le_refl _, rfl, ⟨_, _, [], _, _, [], _, _, [], rfl, rfl, rfl, oA0, oC0, oE0, sAC0, sAE0, sCE0, Lib.hid (by simp), Lib.hid (by have := htl.out; simp; omega), Lib.hid (by have := hol.out; simp; omega)⟩, r0, hX0⟩
    case round =>
      clear oA0 oC0 oE0 sAC0 sAE0 sCE0 r0 hX0
      obtain ⟨m, hm, rfl, ⟨AA0, cA0, xs, AC0, cC0, ys, AE0, cE0, zs, rfl, rfl, rfl, oA0, oC0, oE0, sAC0, sAE0, sCE0, hxs, hys, hzs⟩, r0, hX0⟩ := hrel
      have hxl : xs.length ≤ 4 := by rw [hxs.out]; simp; omega
      have hyl : ys.length ≤ 4 := by rw [hys.out]; have := htl.out; simp; omega
      have hzl : zs.length ≤ 4 := by rw [hzs.out]; simp; omega
      have hz0w := hX0.size
      have hrl0 := r0.lt
      obtain ⟨k0, k1, k2⟩ := loadS (bs.below hX0 bs.lt)
      cases m with
      | zero =>
        have h0 : ((0 : Nat) : Int) - 1 = -1 := rfl
        have e0 := r0.cell 0
        have e1 := r0.cell 1
        have e2 := r0.cell 2
        have ef := r0.frozen
        simp at e0 e1 e2
        have lA := oA0.lt
        have lC := oC0.lt
        have lE := oE0.lt
        have oA1 := own_set1 (k := 2) (g := gb) (.slice AC0 ys.length cC0) (own_set1 (k := 1) (g := gb) (.slice AA0 xs.length cA0) oA0 (fun b h => by have := (lA b h).1; omega)) (fun b h => by have := (lA b h).1; omega)
        have oC1 := own_set1 (k := 2) (g := gb) (.slice AC0 ys.length cC0) (own_set1 (k := 1) (g := gb) (.slice AA0 xs.length cA0) oC0 (fun b h => by have := (lC b h).1; omega)) (fun b h => by have := (lC b h).1; omega)
        have oE1 := own_set1 (k := 2) (g := gb) (.slice AC0 ys.length cC0) (own_set1 (k := 1) (g := gb) (.slice AA0 xs.length cA0) oE0 (fun b h => by have := (lE b h).1; omega)) (fun b h => by have := (lE b h).1; omega)
        have hX1 := (hX0.setCell (p := ⟨gb, 1, none⟩) hw3 (.slice AA0 xs.length cA0)).setCell (p := ⟨gb, 2, none⟩) hw3 (.slice AC0 ys.length cC0)
        have r1 : Blk ((wr.setCell ⟨gb, 1, none⟩ (.slice AA0 xs.length cA0)).setCell ⟨gb, 2, none⟩ (.slice AC0 ys.length cC0)) gb 27 (strC ⟨s.cy, xs, ys⟩ AA0 AC0 cA0 cC0) := by
          have := (r0.set_ 1 (.slice AA0 xs.length cA0)).set_ 2 (.slice AC0 ys.length cC0)
          simpa using this
        have HX1 := Lib.hid hX1
        have HR1 := Lib.hid r1
        have HA1 := Lib.hid oA1
        have HC1 := Lib.hid oC1
        have HE1 := Lib.hid oE1
        clear oA0 oC0 oE0 r0 hX0 oA1 oC1 oE1 hX1 r1 lA lC lE
        simp only [h0]
        go_wp2_with fail
        have hX1 := HX1.out
        have r1 := HR1.out
        have rA := HA1.out.rd
        have rC := HC1.out.rd
        have rE := HE1.out.rd
        clear HX1 HR1 HA1 HC1 HE1 k0 k1 k2 e0 e1 e2 ef
        generalize (wr.setCell ⟨gb, 1, none⟩ (.slice AA0 xs.length cA0)).setCell ⟨gb, 2, none⟩ (.slice AC0 ys.length cC0) = w5 at *
        have hB5 := hB.trans (hX1.mono hB.size)
        have hs5 := hs.below hX1
        have ho5 := ho.below hX1
        obtain ⟨q0, q1, q2⟩ := loadS (bs.below hX1 bs.lt)
        obtain ⟨t0, t1, t2⟩ := loadS r1
        have k0 := Grow.cell q0
        have k1 := Grow.cell q1
        have k2 := Grow.cell q2
        have p0 := Grow.cell t0
        have p1 := Grow.cell t1
        have p2 := Grow.cell t2
        have hE : Hid ((⟨s.cy, xs, ys⟩ : St) = revS s ∧ zs = os.reverse) := Lib.hid ⟨by have h1 := hxs.out; have h2 := hys.out; simp only [List.drop_zero, Nat.zero_sub] at h1 h2; rw [h1, h2]; rfl, by have h3 := hzs.out; simpa using h3⟩
        have hc1 := fun W (h1 : Below w5.heap.size w5 W) => iTwo_v ⟨s.cy, xs, ys⟩ zs n (Lib.hid (by rw [hE.out.1, hE.out.2]; exact Hr.out)) AA0 AC0 AE0 cA0 cC0 cE0 W ⟨rA.below h1, rC.below h1, by simp; omega, by simp; omega⟩ (rE.below h1) (by omega)
        have hc2 := fun W (h1 : Below w5.heap.size w5 W) => iBand_v s os x Hx G T O c d f W (hs5.below h1) (ho5.below h1) (by omega)
        have hc3 := fun W (h1 : Below w5.heap.size w5 W) => iBand_v ⟨s.cy, xs, ys⟩ zs y (Lib.hid (by rw [hE.out.1, hE.out.2]; exact Hy.out)) AA0 AC0 AE0 cA0 cC0 cE0 W ⟨rA.below h1, rC.below h1, by simp; omega, by simp; omega⟩ (rE.below h1) (by omega)
        have hadd := Hadd.out
        clear q0 q1 q2 t0 t1 t2 r1 hxs hys hzs hE sAC0 sAE0 sCE0 bs hX1
        refine wp_region_grow _ (by kernel_rfl) (by kernel_rfl) (Below.refl _ _) ?_
        repeat (go_big_quiet_step (fail))
        go_big_quiet_step ((go_at_call 34; exact grow_of (hc1 _ (Grow.h _))))
        repeat (go_big_quiet_step (fail))
        go_big_quiet_step ((go_at_call 28; exact grow_of (hc2 _ (Grow.h _))))
        repeat (go_big_quiet_step (fail))
        go_big_quiet_step ((go_at_call 28; exact grow_of (hc3 _ (Grow.h _))))
        repeat (go_big_quiet_step (fail))
        refine wpQuiet_nil ?_
        rintro _ ⟨z, rfl⟩
        go_wp2_with fail
        go_ret
        exact ⟨rfl, hB5.trans (z.h.mono hB5.size)⟩
      | succ j =>
        have hjl : j < s.gr.length := by omega
        have hjo : j < os.length := by have := hol.out; omega
        obtain ⟨b1, o1, rfl, hcg⟩ := hs.hg.at hjl
        obtain ⟨b2, o2, rfl, hco⟩ := ho.at hjo
        have hst1 := Lib.hid (rev_step (xs := s.gr) (j := j) hjl)
        have hst2 := Lib.hid (rev_step (xs := os) (j := j) hjo)
        rw [ga_at hjl] at hcg
        rw [ga_at hjo] at hco
        simp only [fI] at hcg hco
        obtain ⟨x1, hx1⟩ : ∃ x1, x1 = ga s.gr j := ⟨_, rfl⟩
        obtain ⟨x2, hx2⟩ : ∃ x2, x2 = ga os j := ⟨_, rfl⟩
        rw [← hx1] at hcg hst1
        rw [← hx2] at hco hst2
        clear hx1 hx2
        have hcg1 := (hX0.cell (World.block_lt_of_cell? wb _ hcg)).trans hcg
        have hoW := Lib.hid (fun (W : World) (h : Below wb.heap.size wb W) => show W.cell? ⟨b2, o2 + j, none⟩ = some (.int .i64 x2) from (h.cell (World.block_lt_of_cell? wb _ hco)).trans hco)
        clear hcg hco
        simp only [pred_succ]
        by_cases hj0 : j = 0
        · subst hj0
          simp only [Nat.add_zero] at hcg1 hoW
          have hcast : ((0 : Nat) : Int) = 0 := rfl
          simp only [hcast]
          go_wp2_with (first | (at_builtin; refine wpList_pushO rfl (.tmp 50) (.tmp 56) 22 rfl i0 _ 8 Try.underlying22 hi0 hz0 hz1 hz2 rfl rfl (oA0.alloc (.cells #[.int .i64 x1] 3)) wr.heap.size x1 rfl (cell_new _ _ _) rfl (by omega) (by omega) (by simp; omega) ?_; intro AA1 cA1 w5 oA1 hg1 hb1; have lC0 := oC0.lt; have lE0 := oE0.lt; have lA0 := oA0.lt; have oC1 := (oC0.alloc (.cells #[.int .i64 x1] 3)).grown hg1 sAC0.or; have sAC1 := (sAC0).push (n := wr.heap.size) (fun b hb => (lC0 b hb).2) (hb1.imp id fun h b hb => by have := h b hb; simp at this; omega); have oE1 := (oE0.alloc (.cells #[.int .i64 x1] 3)).grown hg1 sAE0.or; have sAE1 := (sAE0).push (n := wr.heap.size) (fun b hb => (lE0 b hb).2) (hb1.imp id fun h b hb => by have := h b hb; simp at this; omega); have sCE1 := sCE0; have r1 := (r0.alloc (.cells #[.int .i64 x1] 3)).grown hg1 (fun e => by have := (lA0 _ e.symm).1; omega); have hX1 := below_push hz0w hX0 (fun b hb => by have := lA0 b hb; omega) hg1; have hz1w := hX1.size; have hrl1 := r1.lt; have hcE1 := hoW.out _ hX1; clear k0 k1 k2 hcg1) | (at_builtin; refine wpList_pushO rfl (.tmp 58) (.tmp 63) 22 rfl i0 _ 8 Try.underlying22 hi0 hz0 hz1 hz2 rfl rfl (oE1.alloc (.cells #[.int .i64 x2] 3)) w5.heap.size x2 rfl (cell_new _ _ _) rfl (by omega) (by omega) (by simp; omega) ?_; intro AE2 cE2 w6 oE2 hg2 hb2; have lA1 := oA1.lt; have lC1 := oC1.lt; have lE1 := oE1.lt; have oA2 := (oA1.alloc (.cells #[.int .i64 x2] 3)).grown hg2 sAE1.symm.or; have sEA2 := (sAE1.symm).push (n := w5.heap.size) (fun b hb => (lA1 b hb).2) (hb2.imp id fun h b hb => by have := h b hb; simp at this; omega); have oC2 := (oC1.alloc (.cells #[.int .i64 x2] 3)).grown hg2 sCE1.symm.or; have sEC2 := (sCE1.symm).push (n := w5.heap.size) (fun b hb => (lC1 b hb).2) (hb2.imp id fun h b hb => by have := h b hb; simp at this; omega); have sAC2 := sAC1; have r2 := (r1.alloc (.cells #[.int .i64 x2] 3)).grown hg2 (fun e => by have := (lE1 _ e.symm).1; omega); have hX2 := below_push hz1w hX1 (fun b hb => by have := lE1 b hb; omega) hg2; have hz2w := hX2.size; have hrl2 := r2.lt))
          go_roundw
          case rel => exact ⟨0, by omega, rfl, ⟨AA1, cA1, xs ++ [x1], AC0, cC0, ys, AE2, cE2, zs ++ [x2], by simp, rfl, by simp, oA2, oC2, oE2, sAC2, sEA2.symm, sEC2.symm, Lib.hid (by rw [hst1.out, hxs.out]), Lib.hid (by rw [hys.out]), Lib.hid (by rw [hst2.out, hzs.out])⟩, r2, hX2⟩
          case measure => simp [intOf]
        · have hjt : j - 1 < s.tr.length := by have := htl.out; omega
          obtain ⟨b3, o3, rfl, hct⟩ := hs.ht.at hjt
          rw [ga_at hjt] at hct
          simp only [fI] at hct
          have hst3 := Lib.hid (drop_pred (xs := s.tr) hj0 hjt)
          obtain ⟨i, rfl⟩ : ∃ i, j = i + 1 := ⟨j - 1, by omega⟩
          simp only [Nat.add_sub_cancel] at hct hjt hst3
          obtain ⟨x3, hx3⟩ : ∃ x3, x3 = ga s.tr i := ⟨_, rfl⟩
          rw [← hx3] at hct hst3
          clear hx3
          have htW := Lib.hid (fun (W : World) (h : Below wb.heap.size wb W) => show W.cell? ⟨b3, o3 + i, none⟩ = some (.int .i64 x3) from (h.cell (World.block_lt_of_cell? wb _ hct)).trans hct)
          clear hct
          go_wp2_with (first | (at_builtin; refine wpList_pushO rfl (.tmp 50) (.tmp 56) 22 rfl i0 _ 8 Try.underlying22 hi0 hz0 hz1 hz2 rfl rfl (oA0.alloc (.cells #[.int .i64 x1] 3)) wr.heap.size x1 rfl (cell_new _ _ _) rfl (by omega) (by omega) (by simp; omega) ?_; intro AA1 cA1 w5 oA1 hg1 hb1; have lC0 := oC0.lt; have lE0 := oE0.lt; have lA0 := oA0.lt; have oC1 := (oC0.alloc (.cells #[.int .i64 x1] 3)).grown hg1 sAC0.or; have sAC1 := (sAC0).push (n := wr.heap.size) (fun b hb => (lC0 b hb).2) (hb1.imp id fun h b hb => by have := h b hb; simp at this; omega); have oE1 := (oE0.alloc (.cells #[.int .i64 x1] 3)).grown hg1 sAE0.or; have sAE1 := (sAE0).push (n := wr.heap.size) (fun b hb => (lE0 b hb).2) (hb1.imp id fun h b hb => by have := h b hb; simp at this; omega); have sCE1 := sCE0; have r1 := (r0.alloc (.cells #[.int .i64 x1] 3)).grown hg1 (fun e => by have := (lA0 _ e.symm).1; omega); have hX1 := below_push hz0w hX0 (fun b hb => by have := lA0 b hb; omega) hg1; have hz1w := hX1.size; have hrl1 := r1.lt; have hcE1 := hoW.out _ hX1; clear k0 k1 k2 hcg1) | (at_builtin; refine wpList_pushO rfl (.tmp 58) (.tmp 63) 22 rfl i0 _ 8 Try.underlying22 hi0 hz0 hz1 hz2 rfl rfl (oE1.alloc (.cells #[.int .i64 x2] 3)) w5.heap.size x2 rfl (cell_new _ _ _) rfl (by omega) (by omega) (by simp; omega) ?_; intro AE2 cE2 w6 oE2 hg2 hb2; have lA1 := oA1.lt; have lC1 := oC1.lt; have lE1 := oE1.lt; have oA2 := (oA1.alloc (.cells #[.int .i64 x2] 3)).grown hg2 sAE1.symm.or; have sEA2 := (sAE1.symm).push (n := w5.heap.size) (fun b hb => (lA1 b hb).2) (hb2.imp id fun h b hb => by have := h b hb; simp at this; omega); have oC2 := (oC1.alloc (.cells #[.int .i64 x2] 3)).grown hg2 sCE1.symm.or; have sEC2 := (sCE1.symm).push (n := w5.heap.size) (fun b hb => (lC1 b hb).2) (hb2.imp id fun h b hb => by have := h b hb; simp at this; omega); have sAC2 := sAC1; have r2 := (r1.alloc (.cells #[.int .i64 x2] 3)).grown hg2 (fun e => by have := (lE1 _ e.symm).1; omega); have hX2 := below_push hz1w hX1 (fun b hb => by have := lE1 b hb; omega) hg2; have hz2w := hX2.size; have hrl2 := r2.lt; have hcT2 := htW.out _ hX2; obtain ⟨p0, p1, p2⟩ := loadS (bs.below hX2 bs.lt); clear hcE1) | (at_builtin; refine wpList_pushO rfl (.tmp 67) (.tmp 74) 22 rfl i0 _ 8 Try.underlying22 hi0 hz0 hz1 hz2 rfl rfl (oC2.alloc (.cells #[.int .i64 x3] 3)) w6.heap.size x3 rfl (cell_new _ _ _) rfl (by omega) (by omega) (by simp; omega) ?_; intro AC3 cC3 w7 oC3 hg3 hb3; have lA2 := oA2.lt; have lE2 := oE2.lt; have lC2 := oC2.lt; have oA3 := (oA2.alloc (.cells #[.int .i64 x3] 3)).grown hg3 sAC2.symm.or; have sCA3 := (sAC2.symm).push (n := w6.heap.size) (fun b hb => (lA2 b hb).2) (hb3.imp id fun h b hb => by have := h b hb; simp at this; omega); have oE3 := (oE2.alloc (.cells #[.int .i64 x3] 3)).grown hg3 sEC2.symm.or; have sCE3 := (sEC2.symm).push (n := w6.heap.size) (fun b hb => (lE2 b hb).2) (hb3.imp id fun h b hb => by have := h b hb; simp at this; omega); have sAE3 := sEA2.symm; have r3 := (r2.alloc (.cells #[.int .i64 x3] 3)).grown hg3 (fun e => by have := (lC2 _ e.symm).1; omega); have hX3 := below_push hz2w hX2 (fun b hb => by have := lC2 b hb; omega) hg3; have hz3w := hX3.size))
          go_roundw
          case rel => exact ⟨i + 1, by omega, by go_num, ⟨AA1, cA1, xs ++ [x1], AC3, cC3, ys ++ [x3], AE2, cE2, zs ++ [x2], by simp, by simp, by simp, oA3, oC3, oE3, sCA3.symm, sAE3, sCE3, Lib.hid (by rw [hst1.out, hxs.out]), Lib.hid (by rw [hys.out]; exact hst3.out.symm), Lib.hid (by rw [hst2.out, hzs.out])⟩, r3, hX3⟩
          case measure => simp [intOf]; omega

set_option maxRecDepth 100000 in
theorem lifted (os : Os) (started : os.Started) (H : Type) (enc : TypeId × Value → H) :
    ReturnsInHanded {} Try.checked os 13 .any (Rows.fnTwoWayBandSpec.pre6 enc Try.prog Try.f13 Rows.fnTwoWayBandRow.domain false) (Rows.fnTwoWayBandSpec.post enc Try.prog Try.f13 false true false false) := by
  refine returnsInHanded_of_change (C := Try.checked) own started (by kernel_rfl) Try.func13
    (ChangeSpec.witness6 (enc := enc) (C := Try.checked) false ⟨#[], #[.slice none 0 0], []⟩ 8 (by kernel_rfl) (by kernel_rfl) (by kernel_rfl) (by kernel_rfl)) ?_
  intro W base args ds gs before hval0 hW hcnd _
  have hval : ∀ (j : Nat) t v, Try.f13.params[j]? = some t → args[j]? = some v → Value.okWide Try.prog W .any base t v := hval0
  have hW' := hW
  obtain ⟨p, q, hA0, hV, rfl, hfz, hnd⟩ := hW
  have hA : DataW.TrodAll enc Try.prog W 0 (fun _ => true) true Try.f13.params.toList args.toList ds p := hA0
  rw [Try.params13] at hA hval
  obtain ⟨v0, vs0, d0, ds0, p0, q0, hargs, rfl, rfl, h0, r0⟩ := trodAll_cons hA
  obtain ⟨rfl, rfl, rfl⟩ := trodAll_nil r0
  obtain rfl : args = #[v0] := by cases args; simp_all
  obtain ⟨rfl, rfl⟩ := trodVars_none hV
  have k0 := h0
  have lt0 : ∀ x ∈ p0, x.block < W.heap.size := by obtain ⟨m, hm⟩ := k0; exact DataW.trod_lt m _ _ _ hm
  obtain ⟨a0, len0, cap0, rfl⟩ := okWide_slice Try.underlying39 (hval 0 39 v0 rfl rfl)
  obtain ⟨w0, hc0⟩ := open_bytes Try.underlying39 Try.underlying5 (by kernel_rfl) h0
  clear hA0 hval0
  refine (walk a0 len0 cap0 W w0 hc0).mono fun e W' ⟨he, bel⟩ => ?_
  subst he
  exact ⟨_, rfl, _, _, _, [], _, [], hW', trodAll_mk1 (shut_bool Try.underlying4 _), (trodAll_cons_mk (Below.trod laidOut (by kernel_rfl) (of_decide_eq_true (by kernel_rfl)) k0 bel lt0) trodAll_mk0), rfl, bel.frame _, fun h => by cases h⟩

theorem over : Rows.fnTwoWayBandRow.holds Try.pinned (OpenSpec.ofChange Rows.fnTwoWayBandSpec) :=
  OpenClaim.holds_of_wide 13 Try.f13 rfl rfl rfl rfl rfl rfl rfl ⟨rfl, rfl, rfl, rfl, rfl⟩ rfl rfl rfl rfl rfl (by kernel_rfl) Try.func13 (by kernel_rfl)
    (of_decide_eq_true (by kernel_rfl)) (by unfold Func.isWrapper; first | (rw [if_pos (by decide +kernel)]; kernel_rfl) | (rw [if_neg (by decide +kernel)]; exact ⟨rfl, rfl⟩))
    (fun os started H enc _ => lifted os started H enc)

theorem proved : Rows.FnTwoWayBandSaid := over
end Go.Proofs.Ytmnapeefclkldaa.FnTwoWayBand
