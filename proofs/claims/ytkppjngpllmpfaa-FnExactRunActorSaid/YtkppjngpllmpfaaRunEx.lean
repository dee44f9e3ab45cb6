/-
  The statement FnExactRunActor: the program's function returns what the reference's returns.
-/
import Derived.Test.YtkppjngpllmpfaaOpenSS
import Derived.Test.YtkppjngpllmpfaaRunSpec
import Derived.Test.YtkppjngpllmpfaaAcEx2
namespace Go.Proofs.Ytkppjngpllmpfaa.FnExactRunActor
open Go.RowKit Go.ChangeShapes Go.WideShapes Go.ChangeAt Go.Proofs.Ytkppjngpllmpfaa
set_option linter.unusedVariables false

set_option maxHeartbeats 6400000 in
theorem walk (a : Ctl) (A : Option Addr) (c : Nat) (C : Option Addr) (d : Nat) (css : List (List Bool)) (w : World) (hr0 : RdL fB w A a.wa) (hn : a.wa.length ≤ maxLen) (hc0 : RdSS fB w C css) (hl0 : ∀ k (h : k < css.length), css[k].length ≤ maxLen) (hm : css.length ≤ maxLen) :
    Calls Try.prog 6 #[acV a A c, .slice C css.length d] w fun e w' => e = .returned (.bool true) ∧ Below w.heap.size w w' := by
  have bA := Blk.new w 34 (acC a A c)
  have hB := (Below.refl w.heap.size w).alloc (Nat.le_refl _) (.cells (acC a A c) 34)
  obtain ⟨left, hleft⟩ : ∃ left, left = szF a.wa.length 1048576 := ⟨_, rfl⟩
  have hsz : left < 0 ∨ (0 ≤ left ∧ left ≤ 1048576 ∧ a.wa.length ≤ 1048576) := by
    rw [hleft]; unfold szF; split <;> omega
  go_enter Try.func6, Try.ntmps6
  go_wp2_with fail
  generalize w.alloc (.cells (acC a A c) 34) = w0 at *
  have hR := runF_length (a := a) (cs := css)
  obtain ⟨bA0, bA1, bA2, bA3, bA4, bA5⟩ := loadT bA
  have bAl := bA.lt
  go_wp2_with fail
  refine (szActor_any a A c _ hn).mono ?_
  rintro e w1 ⟨rfl, v1⟩
  replace bA := bA.below v1 bA.lt
  replace hB := hB.trans (v1.mono hB.size)
  clear v1
  clear bA0 bA1 bA2 bA3 bA4 bA5 bAl
  rw [← hleft]
  clear hleft
  rcases hsz with hneg | ⟨hpos, hle, hlen⟩
  · go_wp2_with fail
    go_ret
    exact ⟨rfl, hB⟩
  go_wp2_with fail
  refine (szBoolSS_any css C d left _ (hc0.below hB) hm hl0 hpos hle).mono ?_
  rintro e w2 ⟨⟨u, rfl, hu⟩, v2⟩
  replace bA := bA.below v2 bA.lt
  replace hB := hB.trans (v2.mono hB.size)
  clear v2
  rcases hu with rfl | ⟨hu0, hu1⟩
  · go_wp2_with fail
    go_ret
    exact ⟨rfl, hB⟩
  have hcl : css.length ≤ 1048576 := by omega
  have htot : tot css ≤ 1048576 := by omega
  have hrl : ∀ k (h : k < css.length), css[k].length ≤ 1048576 := fun k h => by have := tot_mem css h; omega
  have hrl2 : ∀ k (h : k < css.length), css[k].length ≤ 2000000 := fun k h => by have := hrl k h; omega
  have Hu1 := Lib.hid hu1
  clear hu1
  obtain ⟨bA0, bA1, bA2, bA3, bA4, bA5⟩ := loadT bA
  have bAl := bA.lt
  go_wp2_with fail
  refine (toActor_any a A c _ (hr0.below hB) hlen).mono ?_
  rintro e w3 ⟨At1, ct1, rfl, yt1, v3⟩
  have lyt1 := hB.size
  have nyt1bA : ∀ b, blk At1 = some b → b ≠ w.heap.size := fun b h => by have h1 := (yt1.lt b h).1; have h2 := bA.lt; omega
  replace bA := bA.below v3 bA.lt
  replace hB := hB.trans (v3.mono hB.size)
  clear v3
  clear bA0 bA1 bA2 bA3 bA4 bA5 bAl
  go_wp2_with fail
  refine (toBoolSS_any css C d _ (hc0.below hB) hcl hrl).mono ?_
  rintro e w4 ⟨Ct1, dt1, rfl, zt1, v4⟩
  have lzt1 := hB.size
  have uyt1zt1 : ∀ b, blk At1 = some b → b < w3.heap.size := fun b h => (yt1.lt b h).2
  have qbAzt1 := bA.lt
  replace yt1 := yt1.below v4
  replace bA := bA.below v4 bA.lt
  replace hB := hB.trans (v4.mono hB.size)
  clear v4
  have hzt1 := Nat.le_refl w4.heap.size
  go_wp2_with fail
  refine (sRun_any a css At1 Ct1 ct1 dt1 _ yt1.rd zt1.rd (by omega)).mono ?_
  rintro e w5 ⟨Aw, cw, rfl, yw, v5⟩
  have lyw := hB.size
  have nywbA : ∀ b, blk Aw = some b → b ≠ w.heap.size := fun b h => by have h1 := (yw.lt b h).1; have h2 := bA.lt; omega
  have syt1yw := yt1.sep yw (Nat.le_refl _)
  have tywzt1 : ∀ b, blk Aw = some b → w4.heap.size ≤ b := fun b h => Nat.le_trans hzt1 (yw.lt b h).1
  replace yt1 := yt1.below v5
  replace zt1 := zt1.below v5
  replace bA := bA.below v5 bA.lt
  replace hzt1 := Nat.le_trans hzt1 v5.size
  replace hB := hB.trans (v5.mono hB.size)
  clear v5
  clear yt1 zt1
  obtain ⟨bA0, bA1, bA2, bA3, bA4, bA5⟩ := loadT bA
  have bAl := bA.lt
  go_wp2_with fail
  refine (toActor_any a A c _ (hr0.below hB) hlen).mono ?_
  rintro e w6 ⟨Ax, cx, rfl, yx, v6⟩
  have lyx := hB.size
  have nyxbA : ∀ b, blk Ax = some b → b ≠ w.heap.size := fun b h => by have h1 := (yx.lt b h).1; have h2 := bA.lt; omega
  have sywyx := yw.sep yx (Nat.le_refl _)
  replace yw := yw.below v6
  replace bA := bA.below v6 bA.lt
  replace hB := hB.trans (v6.mono hB.size)
  clear v6
  clear bA0 bA1 bA2 bA3 bA4 bA5 bAl
  go_wp2_with fail
  have nywbx : ∀ b, blk Aw = some b → b ≠ w6.heap.size := fun b h => by have h1 := (yw.lt b h).2; omega
  have nyxbx : ∀ b, blk Ax = some b → b ≠ w6.heap.size := fun b h => by have h1 := (yx.lt b h).2; omega
  have bx := Blk.new w6 25 (acC a Ax cx)
  replace yw := yw.alloc (.cells (acC a Ax cx) 25)
  replace yx := yx.alloc (.cells (acC a Ax cx) 25)
  replace bA := bA.alloc (.cells (acC a Ax cx) 25)
  replace hB := hB.alloc hB.size (.cells (acC a Ax cx) 25)
  generalize w6.alloc (.cells (acC a Ax cx) 25) = w6b at *
  refine (toBoolSS_any css C d _ (hc0.below hB) hcl hrl).mono ?_
  rintro e w7 ⟨Cx, dx, rfl, zx, v7⟩
  have lzx := hB.size
  have uywzx : ∀ b, blk Aw = some b → b < w6b.heap.size := fun b h => (yw.lt b h).2
  have uyxzx : ∀ b, blk Ax = some b → b < w6b.heap.size := fun b h => (yx.lt b h).2
  have qbAzx := bA.lt
  have qbxzx := bx.lt
  replace yw := yw.below v7
  replace yx := yx.below v7
  replace bA := bA.below v7 bA.lt
  replace bx := bx.below v7 bx.lt
  replace hB := hB.trans (v7.mono hB.size)
  clear v7
  have hzx := Nat.le_refl w7.heap.size
  obtain ⟨bx0, bx1, bx2, bx3, bx4, bx5⟩ := loadT bx
  have bxl := bx.lt
  go_wp2_with fail
  refine (iRun_any a css Ax Cx cx dx _ yx.rd zx.rd (by omega)).mono ?_
  rintro e w8 ⟨Ag, cg, rfl, yg, v8⟩
  have lyg := hB.size
  have nygbA : ∀ b, blk Ag = some b → b ≠ w.heap.size := fun b h => by have h1 := (yg.lt b h).1; have h2 := bA.lt; omega
  have nygbx : ∀ b, blk Ag = some b → b ≠ w6.heap.size := fun b h => by have h1 := (yg.lt b h).1; have h2 := bx.lt; omega
  have sywyg := yw.sep yg (Nat.le_refl _)
  have syxyg := yx.sep yg (Nat.le_refl _)
  have tygzx : ∀ b, blk Ag = some b → w7.heap.size ≤ b := fun b h => Nat.le_trans hzx (yg.lt b h).1
  replace yw := yw.below v8
  replace yx := yx.below v8
  replace zx := zx.below v8
  replace bA := bA.below v8 bA.lt
  replace bx := bx.below v8 bx.lt
  replace hzx := Nat.le_trans hzx v8.size
  replace hB := hB.trans (v8.mono hB.size)
  clear v8
  clear bx0 bx1 bx2 bx3 bx4 bx5 bxl
  go_wp2_with fail
  refine (eqIntS_same (runF a css) Ag Aw cg cw _ yg.rd yw.rd (by omega)).mono ?_
  rintro e w9 ⟨rfl, v9⟩
  replace yw := yw.below v9
  replace yx := yx.below v9
  replace yg := yg.below v9
  replace zx := zx.below v9
  replace bA := bA.below v9 bA.lt
  replace bx := bx.below v9 bx.lt
  replace hzx := Nat.le_trans hzx v9.size
  replace hB := hB.trans (v9.mono hB.size)
  clear v9
  go_wp2_with fail
  obtain ⟨S, hS⟩ : ∃ S : World → Prop, S = fun x => Blk x w.heap.size 34 (acC a A c) ∧ Blk x w6.heap.size 25 (acC a Ax cx) := ⟨_, rfl⟩
  have hS1 : ∀ x, S x → Blk x w.heap.size 34 (acC a A c) := fun x h => by rw [hS] at h; exact h.1
  have hS2 : ∀ x, S x → Blk x w6.heap.size 25 (acC a Ax cx) := fun x h => by rw [hS] at h; exact h.2
  have hS3 : ∀ x, Blk x w.heap.size 34 (acC a A c) → Blk x w6.heap.size 25 (acC a Ax cx) → S x := fun x h1 h2 => by rw [hS]; exact ⟨h1, h2⟩
  obtain ⟨k0, k1, k2, k3, k4, k5⟩ := held_cells hS1
  obtain ⟨j0, j1, j2, j3, j4, j5⟩ := held_cells hS2
  have HS3 := Lib.hid hS3
  clear hS hS1 hS2 hS3
  refine wp_region_plan S [0, 1] [2, 3, 4] (by kernel_rfl) (by kernel_rfl) (HS3.out _ bA.drew bx.drew) ?_
  intro hne
  simp only [List.filterMap_cons, List.filterMap_nil, List.getElem?_toArray, List.getElem?_cons_zero, List.getElem?_cons_succ]
  repeat (refine wpEarly_step (fun K hK => ?_); go_simp; refine hK _ ?_; clear hK K)
  refine wpEarly_nil ?_
  clear k0 j0 k1 j1 k2 j2 k3 j3 k4 j4 k5 j5 hne
  replace hB := hB.drew
  replace yw := yw.drew
  replace yx := yx.drew
  replace yg := yg.drew
  replace zx := zx.drew
  replace bA := bA.drew
  replace bx := bx.drew
  replace hzx : w7.heap.size ≤ w9.drew.heap.size := hzx
  generalize w9.drew = w9d at *
  refine wpLate_step rfl (fun K hK => ?_)
  go_wp2_with fail
  refine (toActor_any a A c _ (hr0.below hB) hlen).mono ?_
  rintro e w10 ⟨At3, ct3, rfl, yt3, v10⟩
  replace yw := yw.below v10
  replace yx := yx.below v10
  replace yg := yg.below v10
  replace zx := zx.below v10
  replace bA := bA.below v10 bA.lt
  replace bx := bx.below v10 bx.lt
  replace hzx := Nat.le_trans hzx v10.size
  replace hB := hB.trans (v10.mono hB.size)
  clear v10
  go_wp2_with fail
  refine ⟨HS3.out _ bA bx, ?_⟩
  refine wpLate_step rfl (fun K hK => ?_)
  go_wp2_with fail
  refine (eqActor_same a Ax At3 cx ct3 _ yx.rd yt3.rd (by omega)).mono ?_
  rintro e w11 ⟨rfl, v11⟩
  replace yw := yw.below v11
  replace yx := yx.below v11
  replace yg := yg.below v11
  replace zx := zx.below v11
  replace bA := bA.below v11 bA.lt
  replace bx := bx.below v11 bx.lt
  replace hzx := Nat.le_trans hzx v11.size
  replace hB := hB.trans (v11.mono hB.size)
  clear v11
  go_wp2_with fail
  refine ⟨HS3.out _ bA bx, ?_⟩
  refine wpLate_step rfl (fun K hK => ?_)
  go_wp2_with fail
  refine ⟨HS3.out _ bA bx, ?_⟩
  refine wpLate_nil (NoPanic.normal ?_)
  clear HS3
  go_wp2_with fail
  refine (toBoolSS_any css C d _ (hc0.below hB) hcl hrl).mono ?_
  rintro e w12 ⟨Ct4, dt4, rfl, zt4, v12⟩
  have lzt4 := hB.size
  have uywzt4 : ∀ b, blk Aw = some b → b < w11.heap.size := fun b h => (yw.lt b h).2
  have uyxzt4 : ∀ b, blk Ax = some b → b < w11.heap.size := fun b h => (yx.lt b h).2
  have uygzt4 : ∀ b, blk Ag = some b → b < w11.heap.size := fun b h => (yg.lt b h).2
  have qbAzt4 := bA.lt
  have qbxzt4 := bx.lt
  replace yw := yw.below v12
  replace yx := yx.below v12
  replace yg := yg.below v12
  replace zx := zx.below v12
  replace bA := bA.below v12 bA.lt
  replace bx := bx.below v12 bx.lt
  replace hzx := Nat.le_trans hzx v12.size
  replace hB := hB.trans (v12.mono hB.size)
  clear v12
  have hzt4 := Nat.le_refl w12.heap.size
  go_wp2_with fail
  refine (eqBoolSS_same css Cx Ct4 dx dt4 _ zx.rd zt4.rd (by omega) hrl2).mono ?_
  rintro e w13 ⟨rfl, v13⟩
  replace yw := yw.below v13
  replace yx := yx.below v13
  replace yg := yg.below v13
  replace zx := zx.below v13
  replace zt4 := zt4.below v13
  replace bA := bA.below v13 bA.lt
  replace bx := bx.below v13 bx.lt
  replace hzx := Nat.le_trans hzx v13.size
  replace hzt4 := Nat.le_trans hzt4 v13.size
  replace hB := hB.trans (v13.mono hB.size)
  clear v13
  clear zt4
  obtain ⟨bx0, bx1, bx2, bx3, bx4, bx5⟩ := loadT bx
  have bxl := bx.lt
  go_wp2_with fail
  refine (markActor_any a Ax cx _ 1 _ yx (by omega) (by omega) (by omega)).mono ?_
  rintro e w14 ⟨rfl, m14, gm14⟩
  replace hB := below_mark hB yx.lt lyx gm14
  replace yw := yw.grown gm14 sywyx.symm.or
  replace yg := yg.grown gm14 syxyg.or
  replace zx := zx.grown gm14 hzx (fun b e => .inl (uyxzx b e))
  replace bA := bA.grown gm14 (fun e => nyxbA _ e.symm rfl)
  replace bx := bx.grown gm14 (fun e => nyxbx _ e.symm rfl)
  replace hzx := Nat.le_trans hzx gm14.size
  clear bx0 bx1 bx2 bx3 bx4 bx5 bxl
  clear gm14 yx
  clear m14
  go_wp2_with fail
  refine (markBoolSS_any css Cx dx _ _ (1 + (a.wa.length : Int)) _ zx hzx (by omega) (by omega) (by omega) (by omega)).mono ?_
  rintro e w15 ⟨rfl, m15, gm15⟩
  replace hB := gm15.belowOf hB lzx hB.size
  replace yw := yw.mid gm15 (fun b e => .inl (uywzx b e))
  replace yg := yg.mid gm15 (fun b e => .inr (tygzx b e))
  replace bA := bA.mid gm15 (.inl qbAzx)
  replace bx := bx.mid gm15 (.inl qbxzx)
  replace hzx := Nat.le_trans hzx gm15.2.2.2.1
  clear gm15 zx
  clear m15
  have hk0 : ¬ (1 + (a.wa.length : Int) + (tot css : Int)) < 0 := by omega
  go_wp2_with fail
  refine (eqIntS_same (runF a css) Ag Aw cg cw _ yg.rd yw.rd (by omega)).mono ?_
  rintro e w16 ⟨rfl, v16⟩
  replace yw := yw.below v16
  replace yg := yg.below v16
  replace bA := bA.below v16 bA.lt
  replace bx := bx.below v16 bx.lt
  replace hB := hB.trans (v16.mono hB.size)
  clear v16
  go_wp2_with fail
  refine (markIntS_any (runF a css) Ag cg _ 1 _ yg (by omega) (by omega) (by omega)).mono ?_
  rintro e w17 ⟨rfl, m17, gm17⟩
  replace hB := below_mark hB yg.lt lyg gm17
  replace yw := yw.grown gm17 sywyg.symm.or
  replace bA := bA.grown gm17 (fun e => nygbA _ e.symm rfl)
  replace bx := bx.grown gm17 (fun e => nygbx _ e.symm rfl)
  clear gm17 yg
  have yg := m17
  clear m17
  go_wp2_with fail
  refine (heldIntS_any Ag cg (runF a css).length 1 _ yg.rd (by omega) (by omega) (by omega)).mono ?_
  rintro e w18 ⟨rfl, v18⟩
  replace yw := yw.below v18
  replace yg := yg.below v18
  replace bA := bA.below v18 bA.lt
  replace bx := bx.below v18 bx.lt
  replace hB := hB.trans (v18.mono hB.size)
  clear v18
  obtain ⟨bA0, bA1, bA2, bA3, bA4, bA5⟩ := loadT bA
  have bAl := bA.lt
  go_wp2_with fail
  refine (toActor_any a A c _ (hr0.below hB) hlen).mono ?_
  rintro e w19 ⟨At5, ct5, rfl, yt5, v19⟩
  have lyt5 := hB.size
  have nyt5bA : ∀ b, blk At5 = some b → b ≠ w.heap.size := fun b h => by have h1 := (yt5.lt b h).1; have h2 := bA.lt; omega
  have nyt5bx : ∀ b, blk At5 = some b → b ≠ w6.heap.size := fun b h => by have h1 := (yt5.lt b h).1; have h2 := bx.lt; omega
  have sywyt5 := yw.sep yt5 (Nat.le_refl _)
  have sygyt5 := yg.sep yt5 (Nat.le_refl _)
  replace yw := yw.below v19
  replace yg := yg.below v19
  replace bA := bA.below v19 bA.lt
  replace bx := bx.below v19 bx.lt
  replace hB := hB.trans (v19.mono hB.size)
  clear v19
  clear bA0 bA1 bA2 bA3 bA4 bA5 bAl
  go_wp2_with fail
  refine (toBoolSS_any css C d _ (hc0.below hB) hcl hrl).mono ?_
  rintro e w20 ⟨Ct6, dt6, rfl, zt6, v20⟩
  have lzt6 := hB.size
  have uywzt6 : ∀ b, blk Aw = some b → b < w19.heap.size := fun b h => (yw.lt b h).2
  have uygzt6 : ∀ b, blk Ag = some b → b < w19.heap.size := fun b h => (yg.lt b h).2
  have uyt5zt6 : ∀ b, blk At5 = some b → b < w19.heap.size := fun b h => (yt5.lt b h).2
  have qbAzt6 := bA.lt
  have qbxzt6 := bx.lt
  replace yw := yw.below v20
  replace yg := yg.below v20
  replace yt5 := yt5.below v20
  replace bA := bA.below v20 bA.lt
  replace bx := bx.below v20 bx.lt
  replace hB := hB.trans (v20.mono hB.size)
  clear v20
  have hzt6 := Nat.le_refl w20.heap.size
  go_wp2_with fail
  refine (iRun_any a css At5 Ct6 ct5 dt6 _ yt5.rd zt6.rd (by omega)).mono ?_
  rintro e w21 ⟨Ah, ch, rfl, yh, v21⟩
  have lyh := hB.size
  have nyhbA : ∀ b, blk Ah = some b → b ≠ w.heap.size := fun b h => by have h1 := (yh.lt b h).1; have h2 := bA.lt; omega
  have nyhbx : ∀ b, blk Ah = some b → b ≠ w6.heap.size := fun b h => by have h1 := (yh.lt b h).1; have h2 := bx.lt; omega
  have sywyh := yw.sep yh (Nat.le_refl _)
  have sygyh := yg.sep yh (Nat.le_refl _)
  have syt5yh := yt5.sep yh (Nat.le_refl _)
  have tyhzt6 : ∀ b, blk Ah = some b → w20.heap.size ≤ b := fun b h => Nat.le_trans hzt6 (yh.lt b h).1
  replace yw := yw.below v21
  replace yg := yg.below v21
  replace yt5 := yt5.below v21
  replace zt6 := zt6.below v21
  replace bA := bA.below v21 bA.lt
  replace bx := bx.below v21 bx.lt
  replace hzt6 := Nat.le_trans hzt6 v21.size
  replace hB := hB.trans (v21.mono hB.size)
  clear v21
  clear yt5 zt6
  go_wp2_with fail
  refine (eqIntS_same (runF a css) Ah Aw ch cw _ yh.rd yw.rd (by omega)).mono ?_
  rintro e w22 ⟨rfl, v22⟩
  replace yw := yw.below v22
  replace yg := yg.below v22
  replace yh := yh.below v22
  replace bA := bA.below v22 bA.lt
  replace bx := bx.below v22 bx.lt
  replace hB := hB.trans (v22.mono hB.size)
  clear v22
  go_wp2_with fail
  refine (heldIntS_any Ag cg (runF a css).length 1 _ yg.rd (by omega) (by omega) (by omega)).mono ?_
  rintro e w23 ⟨rfl, v23⟩
  replace yw := yw.below v23
  replace yg := yg.below v23
  replace yh := yh.below v23
  replace bA := bA.below v23 bA.lt
  replace bx := bx.below v23 bx.lt
  replace hB := hB.trans (v23.mono hB.size)
  clear v23
  go_wp2_with fail
  go_ret
  exact ⟨rfl, hB⟩

set_option maxRecDepth 100000 in
theorem lifted (os : Os) (started : os.Started) (H : Type) (enc : TypeId × Value → H) :
    ReturnsInHanded {} Try.checked os 6 .any (Rows.fnExactRunActorSpec.pre6 enc Try.prog Try.f6 Rows.fnExactRunActorRow.domain false) (Rows.fnExactRunActorSpec.post enc Try.prog Try.f6 false true false false) := by
  refine returnsInHanded_of_change (C := Try.checked) own started (by kernel_rfl) Try.func6
    (ChangeSpec.witness6 (enc := enc) (C := Try.checked) false ⟨#[], #[.agg #[.int .i64 0, .int .i64 0, .int .i64 0, .int .i64 0, .int .i64 0, .slice none 0 0], .slice none 0 0], []⟩ 8 (by kernel_rfl) (by kernel_rfl) (by kernel_rfl) (by kernel_rfl)) ?_
  intro W base args ds gs before hval0 hW hcnd _
  have hval : ∀ (j : Nat) t v, Try.f6.params[j]? = some t → args[j]? = some v → Value.okWide Try.prog W .any base t v := hval0
  have hW' := hW
  obtain ⟨p, q, hA0, hV, rfl, hfz, hnd⟩ := hW
  have hA : DataW.TrodAll enc Try.prog W 0 (fun _ => true) true Try.f6.params.toList args.toList ds p := hA0
  rw [Try.params6] at hA hval
  obtain ⟨v0, vs0, d0, ds0, p0, q0, hargs, rfl, rfl, h0, r0⟩ := trodAll_cons hA
  obtain ⟨v1, vs1, d1, ds1, p1, q1, rfl, rfl, rfl, h1, r1⟩ := trodAll_cons r0
  obtain ⟨rfl, rfl, rfl⟩ := trodAll_nil r1
  obtain rfl : args = #[v0, v1] := by cases args; simp_all
  obtain ⟨rfl, rfl⟩ := trodVars_none hV
  have k0 := h0
  have lt0 : ∀ x ∈ p0, x.block < W.heap.size := by obtain ⟨m, hm⟩ := k0; exact DataW.trod_lt m _ _ _ hm
  obtain ⟨cs0, n0, rfl, hcl0, hf0⟩ := open_struct Try.underlying34 (by kernel_rfl) (by kernel_rfl) (hval 0 34 v0 rfl rfl) h0
  obtain ⟨u0_0, y0_0, e0_0, t0_0⟩ := hf0 0 _ rfl
  obtain ⟨x0_0, rfl, w0_0⟩ := open_intF Try.underlying3 t0_0
  obtain ⟨u0_1, y0_1, e0_1, t0_1⟩ := hf0 1 _ rfl
  obtain ⟨x0_1, rfl, w0_1⟩ := open_intF Try.underlying3 t0_1
  obtain ⟨u0_2, y0_2, e0_2, t0_2⟩ := hf0 2 _ rfl
  obtain ⟨x0_2, rfl, w0_2⟩ := open_intF Try.underlying3 t0_2
  obtain ⟨u0_3, y0_3, e0_3, t0_3⟩ := hf0 3 _ rfl
  obtain ⟨x0_3, rfl, w0_3⟩ := open_intF Try.underlying3 t0_3
  obtain ⟨u0_4, y0_4, e0_4, t0_4⟩ := hf0 4 _ rfl
  obtain ⟨x0_4, rfl, w0_4⟩ := open_intF Try.underlying3 t0_4
  obtain ⟨u0_5, y0_5, e0_5, t0_5⟩ := hf0 5 _ rfl
  obtain ⟨A0_5, c0_5, z0_5, rfl, r0_5, l0_5, m0_5⟩ := open_boolsF Try.underlying23 Try.underlying4 (by kernel_rfl) t0_5
  obtain rfl : cs0 = [.int .i64 x0_0, .int .i64 x0_1, .int .i64 x0_2, .int .i64 x0_3, .int .i64 x0_4, .slice A0_5 z0_5.length c0_5] := list_6 hcl0 e0_0 e0_1 e0_2 e0_3 e0_4 e0_5
  have k1 := h1
  have lt1 : ∀ x ∈ p1, x.block < W.heap.size := by obtain ⟨m, hm⟩ := k1; exact DataW.trod_lt m _ _ _ hm
  obtain ⟨a1, len1, cap1, rfl⟩ := okWide_slice Try.underlying26 (hval 1 26 v1 rfl rfl)
  obtain ⟨z1, rfl, w1, l1, hc1, wf1⟩ := open_boolssAt Try.underlying26 Try.underlying23 Try.underlying4 (by kernel_rfl) (by kernel_rfl) h1
  clear hA0 hval0
  refine (walk ⟨x0_0, x0_1, x0_2, x0_3, x0_4, z0_5⟩ A0_5 c0_5 a1 cap1 z1 W r0_5 (Nat.le_trans l0_5 m0_5) w1 l1 (Nat.le_trans hc1 wf1)).mono fun e W' ⟨he, bel⟩ => ?_
  subst he
  exact ⟨_, rfl, _, _, _, [], _, [], hW', trodAll_mk1 (shut_bool Try.underlying4 _), (trodAll_cons_mk (Below.trod laidOut (by kernel_rfl) (of_decide_eq_true (by kernel_rfl)) k0 bel lt0) (trodAll_cons_mk (Below.trod laidOut (by kernel_rfl) (of_decide_eq_true (by kernel_rfl)) k1 bel lt1) trodAll_mk0)), rfl, bel.frame _, fun h => by cases h⟩

theorem over : Rows.fnExactRunActorRow.holds Try.pinned (OpenSpec.ofChange Rows.fnExactRunActorSpec) :=
  OpenClaim.holds_of_wide 6 Try.f6 rfl rfl rfl rfl rfl rfl rfl ⟨rfl, rfl, rfl, rfl, rfl⟩ rfl rfl rfl rfl rfl (by kernel_rfl) Try.func6 (by kernel_rfl)
    (of_decide_eq_true (by kernel_rfl)) (by unfold Func.isWrapper; first | (rw [if_pos (by decide +kernel)]; kernel_rfl) | (rw [if_neg (by decide +kernel)]; exact ⟨rfl, rfl⟩))
    (fun os started H enc _ => lifted os started H enc)

theorem proved : Rows.FnExactRunActorSaid := over
end Go.Proofs.Ytkppjngpllmpfaa.FnExactRunActor
