/-
  The statement FnExactPlanHistory: the program's function returns what the reference's returns.
-/
import Derived.Test.YtcckipckgnkieaaPlOpen
import Derived.Test.YtcckipckgnkieaaPlSt7
namespace Go.Proofs.Ytcckipckgnkieaa.FnExactPlanHistory
open Go.RowKit Go.ChangeShapes Go.WideShapes Go.ChangeAt Go.Proofs.Ytcckipckgnkieaa
set_option linter.unusedVariables false

set_option maxRecDepth 100000 in
set_option maxHeartbeats 6400000 in
theorem walk (p : Pl) (T U : Option Addr) (c d : Nat) (f n : Int) (w : World) (hT0 : RdSS fI w T p.tb) (hS0 : RdG w U p) (hm0 : p.tb.length ≤ maxLen) (hm1 : ∀ k (h : k < p.tb.length), p.tb[k].length ≤ maxLen) (hm2 : p.sg.length ≤ maxLen) (hm3 : ∀ k, k < p.sg.length → (ph p k).length ≤ maxLen) (hf : Lit.wf (.int .i64 f) = true) (hn : Lit.wf (.int .i64 n) = true) :
    Calls Try.prog 4 #[plV p T c U d, .int .i64 f, .int .i64 n] w fun e w' => e = .returned (.bool true) ∧ Below w.heap.size w w' := by
  have bA := Blk.new w 37 (plC p T c U d)
  have hB := (Below.refl w.heap.size w).alloc (Nat.le_refl _) (.cells (plC p T c U d) 37)
  go_enter Try.func4, Try.ntmps4
  go_wp2_with fail
  generalize w.alloc (.cells (plC p T c U d) 37) = w0 at *
  obtain ⟨bA0, bA1⟩ := box_pl bA
  have bAl := bA.lt
  go_wp2_with fail
  refine (szPlan_any p T U c d 1048576 _ (by omega) (by omega) (hT0.below hB) (hS0.below hB) hm0 hm1 hm2 hm3).mono ?_
  rintro e w1 ⟨⟨u, rfl, hu⟩, v1⟩
  replace bA := bA.below v1 bA.lt
  replace hB := hB.trans (v1.mono hB.size)
  clear v1
  clear bA0 bA1 bAl
  rcases hu with rfl | ⟨hu0, hu1⟩
  · go_wp2_with fail
    go_ret
    exact ⟨rfl, hB⟩
  have htl : p.tb.length ≤ 1048576 := by omega
  have htt : tot p.tb ≤ 1048576 := by omega
  have hsl : p.sg.length ≤ 1048576 := by omega
  have hst : totP p p.sg.length ≤ 1048576 := by omega
  have Hu1 := Lib.hid hu1
  clear hu1
  have hu2 : ¬ u < 0 := by omega
  have hrt : ∀ k (h : k < p.tb.length), p.tb[k].length ≤ 1048576 := fun k h => by have := tot_mem p.tb h; omega
  have hrt2 : ∀ k (h : k < p.tb.length), p.tb[k].length ≤ 2000000 := fun k h => by have := hrt k h; omega
  have hrs : ∀ k, k < p.sg.length → (ph p k).length ≤ 1048576 := fun k h => by have := totP_mem p h; omega
  have hrs2 : ∀ k, k < p.sg.length → (ph p k).length ≤ 2000000 := fun k h => by have := hrs k h; omega
  have Hsm : Hid (SmP p 1000000000) := Lib.hid ⟨by omega, fun k h => by have := hrt k h; rw [gm_at h] at this; omega, by omega, fun k h => by have := hrs k h; omega⟩
  obtain ⟨r, hr⟩ : ∃ r, r = planF p f n := ⟨_, rfl⟩
  have Hr := Lib.hid hr
  have hrb := planF_bd p f n
  rw [← hr] at hrb
  obtain ⟨hrl, hrtot⟩ := hrb
  have rr : ∀ k (hk : k < r.length), r[k].length ≤ 2000000 := fun k hk => by have := tot_mem r hk; omega
  clear hr
  obtain ⟨bA0, bA1⟩ := box_pl bA
  have bAl := bA.lt
  go_wp2_with fail
  refine (toPlan_any p T U c d _ (hT0.below hB) (hS0.below hB) htl hrt hsl hrs).mono ?_
  rintro e w2 ⟨C1, c1, S1, d1, rfl, hd1, z1, v2⟩
  have lz1 := hB.size
  have qbAz1 := bA.lt
  replace bA := bA.below v2 bA.lt
  replace hB := hB.trans (v2.mono hB.size)
  clear v2
  clear bA0 bA1 bAl
  have hz1 := Nat.le_refl w2.heap.size
  go_wp2_with fail
  refine (sHist_v p f n r Hr C1 S1 c1 d1 _ z1.rdp Hsm.out).mono ?_
  rintro e w3 ⟨Cw, cw, rfl, zw, v3⟩
  have lzw := hB.size
  have qbAzw := bA.lt
  have lz1zw : w2.heap.size ≤ w2.heap.size := hz1
  replace z1 := z1.below v3
  replace bA := bA.below v3 bA.lt
  replace hz1 := Nat.le_trans hz1 v3.size
  replace hB := hB.trans (v3.mono hB.size)
  clear v3
  have hzw := Nat.le_refl w3.heap.size
  clear z1
  obtain ⟨bA0, bA1⟩ := box_pl bA
  have bAl := bA.lt
  go_wp2_with fail
  refine (toPlan_any p T U c d _ (hT0.below hB) (hS0.below hB) htl hrt hsl hrs).mono ?_
  rintro e w4 ⟨Cx, cx, Sx, dx, rfl, hdx, zx, v4⟩
  have lzx := hB.size
  have qbAzx := bA.lt
  have lzwzx : w3.heap.size ≤ w3.heap.size := hzw
  replace zw := zw.below v4
  replace bA := bA.below v4 bA.lt
  replace hzw := Nat.le_trans hzw v4.size
  replace hB := hB.trans (v4.mono hB.size)
  clear v4
  clear bA0 bA1 bAl
  have hzx := Nat.le_refl w4.heap.size
  go_wp2_with fail
  have pbxzw : w3.heap.size ≤ w4.heap.size := hzw
  have pbxzx : w4.heap.size ≤ w4.heap.size := hzx
  have bx := Blk.new w4 26 (plC p Cx cx Sx dx)
  replace zw := zw.alloc (.cells (plC p Cx cx Sx dx) 26)
  replace zx := zx.alloc (.cells (plC p Cx cx Sx dx) 26)
  replace bA := bA.alloc (.cells (plC p Cx cx Sx dx) 26)
  replace hB := hB.alloc hB.size (.cells (plC p Cx cx Sx dx) 26)
  replace hzw : w3.heap.size ≤ (w4.alloc (.cells (plC p Cx cx Sx dx) 26)).heap.size := by have := hzw; simp <;> omega
  replace hzx : w4.heap.size ≤ (w4.alloc (.cells (plC p Cx cx Sx dx) 26)).heap.size := by have := hzx; simp <;> omega
  generalize w4.alloc (.cells (plC p Cx cx Sx dx) 26) = w4b at *
  refine (iHist_v p f n r Hr Cx Sx cx dx _ zx.rdp Hsm.out hdx).mono ?_
  rintro e w5 ⟨Cg, cg, rfl, zg, v5⟩
  have lzg := hB.size
  have qbAzg := bA.lt
  have qbxzg := bx.lt
  have lzwzg : w3.heap.size ≤ w4b.heap.size := hzw
  have lzxzg : w4.heap.size ≤ w4b.heap.size := hzx
  replace zw := zw.below v5
  replace zx := zx.below v5
  replace bA := bA.below v5 bA.lt
  replace bx := bx.below v5 bx.lt
  replace hzw := Nat.le_trans hzw v5.size
  replace hzx := Nat.le_trans hzx v5.size
  replace hB := hB.trans (v5.mono hB.size)
  clear v5
  have hzg := Nat.le_refl w5.heap.size
  go_wp2_with fail
  refine (eqIntSS_same r Cg Cw cg cw _ zg.rd zw.rd (by omega) rr).mono ?_
  rintro e w6 ⟨rfl, v6⟩
  replace zw := zw.below v6
  replace zx := zx.below v6
  replace zg := zg.below v6
  replace bA := bA.below v6 bA.lt
  replace bx := bx.below v6 bx.lt
  replace hzw := Nat.le_trans hzw v6.size
  replace hzx := Nat.le_trans hzx v6.size
  replace hzg := Nat.le_trans hzg v6.size
  replace hB := hB.trans (v6.mono hB.size)
  clear v6
  go_wp2_with fail
  obtain ⟨S, hS⟩ : ∃ S : World → Prop, S = fun x => Blk x w.heap.size 37 (plC p T c U d) ∧ Blk x w4.heap.size 26 (plC p Cx cx Sx dx) := ⟨_, rfl⟩
  have hS1 : ∀ x, S x → Blk x w.heap.size 37 (plC p T c U d) := fun x h => by rw [hS] at h; exact h.1
  have hS2 : ∀ x, S x → Blk x w4.heap.size 26 (plC p Cx cx Sx dx) := fun x h => by rw [hS] at h; exact h.2
  have hS3 : ∀ x, Blk x w.heap.size 37 (plC p T c U d) → Blk x w4.heap.size 26 (plC p Cx cx Sx dx) → S x := fun x h1 h2 => by rw [hS]; exact ⟨h1, h2⟩
  obtain ⟨k0, k1⟩ := held_pl hS1
  obtain ⟨j0, j1⟩ := held_pl hS2
  have HS3 := Lib.hid hS3
  clear hS hS1 hS2 hS3
  refine wp_region_plan S [0, 1] [2, 3, 4] (by kernel_rfl) (by kernel_rfl) (HS3.out _ bA.drew bx.drew) ?_
  intro hne
  simp only [List.filterMap_cons, List.filterMap_nil, List.getElem?_toArray, List.getElem?_cons_zero, List.getElem?_cons_succ]
  repeat (refine wpEarly_step (fun K hK => ?_); go_simp; refine hK _ ?_; clear hK K)
  refine wpEarly_nil ?_
  clear k0 j0 k1 j1 hne
  replace hB := hB.drew
  replace zw := zw.drew
  replace zx := zx.drew
  replace zg := zg.drew
  replace bA := bA.drew
  replace bx := bx.drew
  replace hzw : w3.heap.size ≤ w6.drew.heap.size := hzw
  replace hzx : w4.heap.size ≤ w6.drew.heap.size := hzx
  replace hzg : w5.heap.size ≤ w6.drew.heap.size := hzg
  generalize w6.drew = w6d at *
  refine wpLate_step rfl (fun K hK => ?_)
  go_wp2_with fail
  refine (toPlan_any p T U c d _ (hT0.below hB) (hS0.below hB) htl hrt hsl hrs).mono ?_
  rintro e w7 ⟨C3, c3, S3, d3, rfl, hd3, z3, v7⟩
  replace zw := zw.below v7
  replace zx := zx.below v7
  replace zg := zg.below v7
  replace bA := bA.below v7 bA.lt
  replace bx := bx.below v7 bx.lt
  replace hzw := Nat.le_trans hzw v7.size
  replace hzx := Nat.le_trans hzx v7.size
  replace hzg := Nat.le_trans hzg v7.size
  replace hB := hB.trans (v7.mono hB.size)
  clear v7
  go_wp2_with fail
  refine ⟨HS3.out _ bA bx, ?_⟩
  refine wpLate_step rfl (fun K hK => ?_)
  go_wp2_with fail
  refine (eqPlan_same p Cx C3 Sx S3 cx c3 dx d3 _ zx.rdp.t z3.rdp.t zx.rdg z3.rdg (by omega) hrt2 (by omega) hrs2).mono ?_
  rintro e w8 ⟨rfl, v8⟩
  replace zw := zw.below v8
  replace zx := zx.below v8
  replace zg := zg.below v8
  replace bA := bA.below v8 bA.lt
  replace bx := bx.below v8 bx.lt
  replace hzw := Nat.le_trans hzw v8.size
  replace hzx := Nat.le_trans hzx v8.size
  replace hzg := Nat.le_trans hzg v8.size
  replace hB := hB.trans (v8.mono hB.size)
  clear v8
  go_wp2_with fail
  refine ⟨HS3.out _ bA bx, ?_⟩
  refine wpLate_step rfl (fun K hK => ?_)
  go_wp2_with fail
  refine ⟨HS3.out _ bA bx, ?_⟩
  refine wpLate_nil (NoPanic.normal ?_)
  clear HS3
  obtain ⟨bx0, bx1⟩ := box_pl bx
  have bxl := bx.lt
  go_wp2_with fail
  refine (markPlan_any p Cx Sx cx dx _ _ 1 _ zx hzx (by omega) (by omega) (by omega) (by omega) (by omega) (by omega)).mono ?_
  rintro e w9 ⟨⟨km, rfl, hkm⟩, gm9⟩
  replace hB := gm9.belowOf hB lzx hB.size
  replace zw := zw.mid gm9 hzw (.inl lzwzx)
  replace zg := zg.mid gm9 hzg (.inr lzxzg)
  replace bA := bA.mid gm9 (.inl qbAzx)
  replace bx := bx.mid gm9 (.inr pbxzx)
  replace hzw := Nat.le_trans hzw gm9.2.2.2.1
  replace hzx := Nat.le_trans hzx gm9.2.2.2.1
  replace hzg := Nat.le_trans hzg gm9.2.2.2.1
  clear bx0 bx1 bxl
  clear gm9 zx
  have hk0 : ¬ km < 0 := by omega
  go_wp2_with fail
  refine (eqIntSS_same r Cg Cw cg cw _ zg.rd zw.rd (by omega) rr).mono ?_
  rintro e w10 ⟨rfl, v10⟩
  replace zw := zw.below v10
  replace zg := zg.below v10
  replace bA := bA.below v10 bA.lt
  replace bx := bx.below v10 bx.lt
  replace hzw := Nat.le_trans hzw v10.size
  replace hzg := Nat.le_trans hzg v10.size
  replace hB := hB.trans (v10.mono hB.size)
  clear v10
  go_wp2_with fail
  refine (markIntSS_any r Cg cg _ _ 1 _ zg hzg (by omega) (by omega) (by omega) (by omega)).mono ?_
  rintro e w11 ⟨rfl, m11, gm11⟩
  replace hB := gm11.belowOf hB lzg hB.size
  replace zw := zw.mid gm11 hzw (.inl lzwzg)
  replace bA := bA.mid gm11 (.inl qbAzg)
  replace bx := bx.mid gm11 (.inl qbxzg)
  replace hzw := Nat.le_trans hzw gm11.2.2.2.1
  replace hzg := Nat.le_trans hzg gm11.2.2.2.1
  clear gm11 zg
  have zg := m11
  clear m11
  go_wp2_with fail
  refine (heldIntSS_any r Cg cg 1 _ zg.rd (by omega) (by omega) (by omega) (by omega)).mono ?_
  rintro e w12 ⟨rfl, v12⟩
  replace zw := zw.below v12
  replace zg := zg.below v12
  replace bA := bA.below v12 bA.lt
  replace bx := bx.below v12 bx.lt
  replace hzw := Nat.le_trans hzw v12.size
  replace hzg := Nat.le_trans hzg v12.size
  replace hB := hB.trans (v12.mono hB.size)
  clear v12
  have hk1 : ¬ (1 + (tot r : Int)) < 0 := by omega
  obtain ⟨bA0, bA1⟩ := box_pl bA
  have bAl := bA.lt
  go_wp2_with fail
  refine (toPlan_any p T U c d _ (hT0.below hB) (hS0.below hB) htl hrt hsl hrs).mono ?_
  rintro e w13 ⟨C5, c5, S5, d5, rfl, hd5, z5, v13⟩
  have lz5 := hB.size
  have qbAz5 := bA.lt
  have qbxz5 := bx.lt
  have lzwz5 : w3.heap.size ≤ w12.heap.size := hzw
  have lzgz5 : w5.heap.size ≤ w12.heap.size := hzg
  replace zw := zw.below v13
  replace zg := zg.below v13
  replace bA := bA.below v13 bA.lt
  replace bx := bx.below v13 bx.lt
  replace hzw := Nat.le_trans hzw v13.size
  replace hzg := Nat.le_trans hzg v13.size
  replace hB := hB.trans (v13.mono hB.size)
  clear v13
  clear bA0 bA1 bAl
  have hz5 := Nat.le_refl w13.heap.size
  go_wp2_with fail
  refine (iHist_v p f n r Hr C5 S5 c5 d5 _ z5.rdp Hsm.out hd5).mono ?_
  rintro e w14 ⟨Ch, ch, rfl, zh, v14⟩
  have lzh := hB.size
  have qbAzh := bA.lt
  have qbxzh := bx.lt
  have lzwzh : w3.heap.size ≤ w13.heap.size := hzw
  have lzgzh : w5.heap.size ≤ w13.heap.size := hzg
  have lz5zh : w13.heap.size ≤ w13.heap.size := hz5
  replace zw := zw.below v14
  replace zg := zg.below v14
  replace z5 := z5.below v14
  replace bA := bA.below v14 bA.lt
  replace bx := bx.below v14 bx.lt
  replace hzw := Nat.le_trans hzw v14.size
  replace hzg := Nat.le_trans hzg v14.size
  replace hz5 := Nat.le_trans hz5 v14.size
  replace hB := hB.trans (v14.mono hB.size)
  clear v14
  have hzh := Nat.le_refl w14.heap.size
  clear z5
  go_wp2_with fail
  refine (eqIntSS_same r Ch Cw ch cw _ zh.rd zw.rd (by omega) rr).mono ?_
  rintro e w15 ⟨rfl, v15⟩
  replace zw := zw.below v15
  replace zg := zg.below v15
  replace zh := zh.below v15
  replace bA := bA.below v15 bA.lt
  replace bx := bx.below v15 bx.lt
  replace hzw := Nat.le_trans hzw v15.size
  replace hzg := Nat.le_trans hzg v15.size
  replace hzh := Nat.le_trans hzh v15.size
  replace hB := hB.trans (v15.mono hB.size)
  clear v15
  go_wp2_with fail
  refine (heldIntSS_any r Cg cg 1 _ zg.rd (by omega) (by omega) (by omega) (by omega)).mono ?_
  rintro e w16 ⟨rfl, v16⟩
  replace zw := zw.below v16
  replace zg := zg.below v16
  replace zh := zh.below v16
  replace bA := bA.below v16 bA.lt
  replace bx := bx.below v16 bx.lt
  replace hzw := Nat.le_trans hzw v16.size
  replace hzg := Nat.le_trans hzg v16.size
  replace hzh := Nat.le_trans hzh v16.size
  replace hB := hB.trans (v16.mono hB.size)
  clear v16
  go_wp2_with fail
  go_ret
  exact ⟨rfl, hB⟩

set_option maxRecDepth 100000 in
theorem lifted (os : Os) (started : os.Started) (H : Type) (enc : TypeId × Value → H) :
    ReturnsInHanded {} Try.checked os 4 .any (Rows.fnExactPlanHistorySpec.pre6 enc Try.prog Try.f4 Rows.fnExactPlanHistoryRow.domain false) (Rows.fnExactPlanHistorySpec.post enc Try.prog Try.f4 false true false false) := by
  refine returnsInHanded_of_change (C := Try.checked) own started (by kernel_rfl) Try.func4
    (ChangeSpec.witness6 (enc := enc) (C := Try.checked) false ⟨#[], #[.agg #[.slice none 0 0, .slice none 0 0], .int .i64 0, .int .i64 0], []⟩ 8 (by kernel_rfl) (by kernel_rfl) (by kernel_rfl) (by kernel_rfl)) ?_
  intro W base args ds gs before hval0 hW hcnd _
  have hval : ∀ (j : Nat) t v, Try.f4.params[j]? = some t → args[j]? = some v → Value.okWide Try.prog W .any base t v := hval0
  have hW' := hW
  obtain ⟨p, q, hA0, hV, rfl, hfz, hnd⟩ := hW
  have hA : DataW.TrodAll enc Try.prog W 0 (fun _ => true) true Try.f4.params.toList args.toList ds p := hA0
  rw [Try.params4] at hA hval
  obtain ⟨v0, vs0, d0, ds0, p0, q0, hargs, rfl, rfl, h0, r0⟩ := trodAll_cons hA
  obtain ⟨v1, vs1, d1, ds1, p1, q1, rfl, rfl, rfl, h1, r1⟩ := trodAll_cons r0
  obtain ⟨v2, vs2, d2, ds2, p2, q2, rfl, rfl, rfl, h2, r2⟩ := trodAll_cons r1
  obtain ⟨rfl, rfl, rfl⟩ := trodAll_nil r2
  obtain rfl : args = #[v0, v1, v2] := by cases args; simp_all
  obtain ⟨rfl, rfl⟩ := trodVars_none hV
  have k0 := h0
  have lt0 : ∀ x ∈ p0, x.block < W.heap.size := by obtain ⟨m, hm⟩ := k0; exact DataW.trod_lt m _ _ _ hm
  obtain ⟨cs0, n0, rfl, hcl0, hf0⟩ := open_struct Try.underlying37 (by kernel_rfl) (by kernel_rfl) (hval 0 37 v0 rfl rfl) h0
  obtain ⟨u0_0, y0_0, e0_0, t0_0⟩ := hf0 0 _ rfl
  obtain ⟨u0_1, y0_1, e0_1, t0_1⟩ := hf0 1 _ rfl
  obtain ⟨A0_0, L0_0, c0_0, rfl, s0_0⟩ := open_sliceF Try.underlying23 t0_0
  obtain ⟨z0_0, rfl, r0_0, l0_0, m0_0, k0_0⟩ := open_intssAt Try.underlying23 Try.underlying32 Try.underlying3 (by kernel_rfl) (by kernel_rfl) s0_0
  obtain ⟨A0_1, L0_1, c0_1, rfl, s0_1⟩ := open_sliceF Try.underlying35 t0_1
  obtain ⟨z0_1, rfl, r0_1, l0_1, m0_1, k0_1⟩ := open_stgsAt Try.underlying35 Try.underlying87 (by kernel_rfl) (by kernel_rfl) rfl rfl Try.underlying32 Try.underlying3 (by kernel_rfl) Try.underlying3 s0_1
  obtain rfl : cs0 = [.slice A0_0 z0_0.length c0_0, .slice A0_1 z0_1.length c0_1] := list_2 hcl0 e0_0 e0_1
  have k1 := h1
  have lt1 : ∀ x ∈ p1, x.block < W.heap.size := by obtain ⟨m, hm⟩ := k1; exact DataW.trod_lt m _ _ _ hm
  obtain ⟨x1, rfl, rfl, rfl, w1⟩ := open_int Try.underlying3 (hval 1 3 v1 rfl rfl) h1
  have k2 := h2
  have lt2 : ∀ x ∈ p2, x.block < W.heap.size := by obtain ⟨m, hm⟩ := k2; exact DataW.trod_lt m _ _ _ hm
  obtain ⟨x2, rfl, rfl, rfl, w2⟩ := open_int Try.underlying3 (hval 2 3 v2 rfl rfl) h2
  clear hA0 hval0
  refine (walk ⟨z0_0, z0_1⟩ A0_0 A0_1 c0_0 c0_1 x1 x2 W r0_0 (r0_1 _) (Nat.le_trans m0_0 k0_0) l0_0 (Nat.le_trans m0_1 k0_1) (l0_1 _) w1 w2).mono fun e W' ⟨he, bel⟩ => ?_
  subst he
  exact ⟨_, rfl, _, _, _, [], _, [], hW', trodAll_mk1 (shut_bool Try.underlying4 _), (trodAll_cons_mk (Below.trod laidOut (by kernel_rfl) (of_decide_eq_true (by kernel_rfl)) k0 bel lt0) (trodAll_cons_mk (shut_int Try.underlying3 w1) (trodAll_cons_mk (shut_int Try.underlying3 w2) trodAll_mk0))), rfl, bel.frame _, fun h => by cases h⟩

theorem over : Rows.fnExactPlanHistoryRow.holds Try.pinned (OpenSpec.ofChange Rows.fnExactPlanHistorySpec) :=
  OpenClaim.holds_of_wide 4 Try.f4 rfl rfl rfl rfl rfl rfl rfl ⟨rfl, rfl, rfl, rfl, rfl⟩ rfl rfl rfl rfl rfl (by kernel_rfl) Try.func4 (by kernel_rfl)
    (of_decide_eq_true (by kernel_rfl)) (by unfold Func.isWrapper; first | (rw [if_pos (by decide +kernel)]; kernel_rfl) | (rw [if_neg (by decide +kernel)]; exact ⟨rfl, rfl⟩))
    (fun os started H enc _ => lifted os started H enc)

theorem proved : Rows.FnExactPlanHistorySaid := over
end Go.Proofs.Ytcckipckgnkieaa.FnExactPlanHistory
