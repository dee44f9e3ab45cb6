/-
  The statement FnExactBestOffsets: the program's function returns what the reference's returns.
-/
import Derived.Test.YtmnapeefclkldaaStEx
import Derived.Test.YtmnapeefclkldaaStBest
namespace Go.Proofs.Ytmnapeefclkldaa.FnExactBestOffsets
open Go.RowKit Go.ChangeShapes Go.WideShapes Go.ChangeAt Go.Proofs.Ytmnapeefclkldaa
set_option linter.unusedVariables false

set_option maxHeartbeats 6400000 in
theorem walk (cy : Int) (gr tr : List Int) (G T : Option Addr) (c d : Nat) (w : World) (hg0 : RdL fI w G gr) (ht0 : RdL fI w T tr) (hn : gr.length ≤ maxLen) (hm : tr.length ≤ maxLen) (hcy : Lit.wf (.int .i64 cy) = true) :
    Calls Try.prog 14 #[strV ⟨cy, gr, tr⟩ G T c d] w fun e w' => e = .returned (.bool true) ∧ Below w.heap.size w w' := by
  obtain ⟨s, hs⟩ : ∃ s : St, s = ⟨cy, gr, tr⟩ := ⟨_, rfl⟩
  rw [← hs]
  have e1 : s.gr = gr := by rw [hs]
  have e2 : s.tr = tr := by rw [hs]
  rw [← e1] at hg0 hn
  rw [← e2] at ht0 hm
  clear e1 e2 hs hcy
  have bA := Blk.new w 24 (strC s G T c d)
  have hB := (Below.refl w.heap.size w).alloc (Nat.le_refl _) (.cells (strC s G T c d) 24)
  have hsz := szS_bd s
  go_enter Try.func14, Try.ntmps14
  go_wp2_with fail
  generalize w.alloc (.cells (strC s G T c d) 24) = w0 at *
  have hR : (bestF s).length ≤ 150 := bestF_len s
  obtain ⟨bA0, bA1, bA2⟩ := loadS bA
  have bAl := bA.lt
  go_wp2_with fail
  refine (szStreet_any s G T c d _ hn hm).mono ?_
  rintro e w1 ⟨rfl, v1⟩
  replace bA := bA.below v1 bA.lt
  replace hB := hB.trans (v1.mono hB.size)
  clear v1
  clear bA0 bA1 bA2 bAl
  rcases hsz with hneg | ⟨hpos, hlg, hlt⟩
  · go_wp2_with fail
    go_ret
    exact ⟨rfl, hB⟩
  obtain ⟨bA0, bA1, bA2⟩ := loadS bA
  have bAl := bA.lt
  go_wp2_with fail
  refine (toStreet_any s G T c d _ ⟨hg0.below hB, ht0.below hB, by omega, by omega⟩ hlg hlt).mono ?_
  rintro e w2 ⟨Gp, Tp, cp, dp, rfl, yp, zp, sypzp, v2⟩
  have lyp := hB.size
  have nypbA : ∀ b, blk Gp = some b → b ≠ w.heap.size := fun b h => by have h1 := (yp.lt b h).1; have h2 := bA.lt; omega
  have lzp := hB.size
  have nzpbA : ∀ b, blk Tp = some b → b ≠ w.heap.size := fun b h => by have h1 := (zp.lt b h).1; have h2 := bA.lt; omega
  replace bA := bA.below v2 bA.lt
  replace hB := hB.trans (v2.mono hB.size)
  clear v2
  clear bA0 bA1 bA2 bAl
  go_wp2_with fail
  refine (sBest_any s Gp Tp cp dp _ ⟨yp.rd, zp.rd, by omega, by omega⟩).mono ?_
  rintro e w3 ⟨Aw, cw, rfl, yw, v3⟩
  have lyw := hB.size
  have nywbA : ∀ b, blk Aw = some b → b ≠ w.heap.size := fun b h => by have h1 := (yw.lt b h).1; have h2 := bA.lt; omega
  have sypyw := yp.sep yw (Nat.le_refl _)
  have szpyw := zp.sep yw (Nat.le_refl _)
  replace yp := yp.below v3
  replace zp := zp.below v3
  replace bA := bA.below v3 bA.lt
  replace hB := hB.trans (v3.mono hB.size)
  clear v3
  clear yp zp
  obtain ⟨bA0, bA1, bA2⟩ := loadS bA
  have bAl := bA.lt
  go_wp2_with fail
  refine (toStreet_any s G T c d _ ⟨hg0.below hB, ht0.below hB, by omega, by omega⟩ hlg hlt).mono ?_
  rintro e w4 ⟨Gq, Tq, cq, dq, rfl, yq, zq, syqzq, v4⟩
  have lyq := hB.size
  have nyqbA : ∀ b, blk Gq = some b → b ≠ w.heap.size := fun b h => by have h1 := (yq.lt b h).1; have h2 := bA.lt; omega
  have sywyq := yw.sep yq (Nat.le_refl _)
  have lzq := hB.size
  have nzqbA : ∀ b, blk Tq = some b → b ≠ w.heap.size := fun b h => by have h1 := (zq.lt b h).1; have h2 := bA.lt; omega
  have sywzq := yw.sep zq (Nat.le_refl _)
  replace yw := yw.below v4
  replace bA := bA.below v4 bA.lt
  replace hB := hB.trans (v4.mono hB.size)
  clear v4
  clear bA0 bA1 bA2 bAl
  go_wp2_with fail
  have nywbq : ∀ b, blk Aw = some b → b ≠ w4.heap.size := fun b h => by have h1 := (yw.lt b h).2; omega
  have nyqbq : ∀ b, blk Gq = some b → b ≠ w4.heap.size := fun b h => by have h1 := (yq.lt b h).2; omega
  have nzqbq : ∀ b, blk Tq = some b → b ≠ w4.heap.size := fun b h => by have h1 := (zq.lt b h).2; omega
  have bq := Blk.new w4 27 (strC s Gq Tq cq dq)
  replace yw := yw.alloc (.cells (strC s Gq Tq cq dq) 27)
  replace yq := yq.alloc (.cells (strC s Gq Tq cq dq) 27)
  replace zq := zq.alloc (.cells (strC s Gq Tq cq dq) 27)
  replace bA := bA.alloc (.cells (strC s Gq Tq cq dq) 27)
  replace hB := hB.alloc hB.size (.cells (strC s Gq Tq cq dq) 27)
  generalize w4.alloc (.cells (strC s Gq Tq cq dq) 27) = w4b at *
  refine (iBest_any s Gq Tq cq dq _ ⟨yq.rd, zq.rd, by omega, by omega⟩).mono ?_
  rintro e w5 ⟨Ag, cg, rfl, yg, v5⟩
  have lyg := hB.size
  have nygbA : ∀ b, blk Ag = some b → b ≠ w.heap.size := fun b h => by have h1 := (yg.lt b h).1; have h2 := bA.lt; omega
  have nygbq : ∀ b, blk Ag = some b → b ≠ w4.heap.size := fun b h => by have h1 := (yg.lt b h).1; have h2 := bq.lt; omega
  have sywyg := yw.sep yg (Nat.le_refl _)
  have syqyg := yq.sep yg (Nat.le_refl _)
  have szqyg := zq.sep yg (Nat.le_refl _)
  replace yw := yw.below v5
  replace yq := yq.below v5
  replace zq := zq.below v5
  replace bA := bA.below v5 bA.lt
  replace bq := bq.below v5 bq.lt
  replace hB := hB.trans (v5.mono hB.size)
  clear v5
  go_wp2_with fail
  refine (eqIntS_same (bestF s) Ag Aw cg cw _ yg.rd yw.rd (by omega)).mono ?_
  rintro e w6 ⟨rfl, v6⟩
  replace yw := yw.below v6
  replace yq := yq.below v6
  replace zq := zq.below v6
  replace yg := yg.below v6
  replace bA := bA.below v6 bA.lt
  replace bq := bq.below v6 bq.lt
  replace hB := hB.trans (v6.mono hB.size)
  clear v6
  go_wp2_with fail
  obtain ⟨S, hS⟩ : ∃ S : World → Prop, S = fun x => Blk x w.heap.size 24 (strC s G T c d) ∧ Blk x w4.heap.size 27 (strC s Gq Tq cq dq) := ⟨_, rfl⟩
  have hS1 : ∀ x, S x → Blk x w.heap.size 24 (strC s G T c d) := fun x h => by rw [hS] at h; exact h.1
  have hS2 : ∀ x, S x → Blk x w4.heap.size 27 (strC s Gq Tq cq dq) := fun x h => by rw [hS] at h; exact h.2
  have hS3 : ∀ x, Blk x w.heap.size 24 (strC s G T c d) → Blk x w4.heap.size 27 (strC s Gq Tq cq dq) → S x := fun x h1 h2 => by rw [hS]; exact ⟨h1, h2⟩
  obtain ⟨k0, k1, k2⟩ := heldS hS1
  obtain ⟨j0, j1, j2⟩ := heldS hS2
  have HS3 := Lib.hid hS3
  clear hS hS1 hS2 hS3
  refine wp_region_plan S [0, 1] [2, 3, 4] (by kernel_rfl) (by kernel_rfl) (HS3.out _ bA.drew bq.drew) ?_
  intro hne
  simp only [List.filterMap_cons, List.filterMap_nil, List.getElem?_toArray, List.getElem?_cons_zero, List.getElem?_cons_succ]
  repeat (refine wpEarly_step (fun K hK => ?_); go_simp; refine hK _ ?_; clear hK K)
  refine wpEarly_nil ?_
  clear k0 k1 k2 j0 j1 j2 hne
  replace hB := hB.drew
  replace yw := yw.drew
  replace yq := yq.drew
  replace zq := zq.drew
  replace yg := yg.drew
  replace bA := bA.drew
  replace bq := bq.drew
  generalize w6.drew = w6d at *
  refine wpLate_step rfl (fun K hK => ?_)
  go_wp2_with fail
  refine (toStreet_any s G T c d _ ⟨hg0.below hB, ht0.below hB, by omega, by omega⟩ hlg hlt).mono ?_
  rintro e w7 ⟨Gr, Tr, cr, dr, rfl, yr, zr, -, v7⟩
  replace yw := yw.below v7
  replace yq := yq.below v7
  replace zq := zq.below v7
  replace yg := yg.below v7
  replace bA := bA.below v7 bA.lt
  replace bq := bq.below v7 bq.lt
  replace hB := hB.trans (v7.mono hB.size)
  clear v7
  go_wp2_with fail
  refine ⟨HS3.out _ bA bq, ?_⟩
  refine wpLate_step rfl (fun K hK => ?_)
  go_wp2_with fail
  refine (eqStreet_same s Gq Tq Gr Tr cq dq cr dr _ ⟨yq.rd, zq.rd, by omega, by omega⟩ ⟨yr.rd, zr.rd, by omega, by omega⟩).mono ?_
  rintro e w8 ⟨rfl, v8⟩
  replace yw := yw.below v8
  replace yq := yq.below v8
  replace zq := zq.below v8
  replace yg := yg.below v8
  replace bA := bA.below v8 bA.lt
  replace bq := bq.below v8 bq.lt
  replace hB := hB.trans (v8.mono hB.size)
  clear v8
  go_wp2_with fail
  refine ⟨HS3.out _ bA bq, ?_⟩
  refine wpLate_step rfl (fun K hK => ?_)
  go_wp2_with fail
  refine ⟨HS3.out _ bA bq, ?_⟩
  refine wpLate_nil (NoPanic.normal ?_)
  clear HS3
  obtain ⟨bq0, bq1, bq2⟩ := loadS bq
  have bql := bq.lt
  go_wp2_with fail
  refine (markStreet_any s Gq Tq cq dq _ _ _ yq zq syqzq (by omega) (by omega)).mono ?_
  rintro e w9 ⟨rfl, wm9, gm9, gn9⟩
  have hq9 := zq.grown gm9 syqzq.or
  replace hB := below_mark (below_mark hB yq.lt lyq gm9) hq9.lt lzq gn9
  replace yw := yw.grown gm9 sywyq.symm.or
  replace yg := yg.grown gm9 syqyg.or
  replace bA := bA.grown gm9 (fun e => nyqbA _ e.symm rfl)
  replace bq := bq.grown gm9 (fun e => nyqbq _ e.symm rfl)
  replace yw := yw.grown gn9 sywzq.symm.or
  replace yg := yg.grown gn9 szqyg.or
  replace bA := bA.grown gn9 (fun e => nzqbA _ e.symm rfl)
  replace bq := bq.grown gn9 (fun e => nzqbq _ e.symm rfl)
  clear bq0 bq1 bq2 bql
  clear gm9 gn9 hq9 yq zq
  go_wp2_with fail
  refine (eqIntS_same (bestF s) Ag Aw cg cw _ yg.rd yw.rd (by omega)).mono ?_
  rintro e w10 ⟨rfl, v10⟩
  replace yw := yw.below v10
  replace yg := yg.below v10
  replace bA := bA.below v10 bA.lt
  replace bq := bq.below v10 bq.lt
  replace hB := hB.trans (v10.mono hB.size)
  clear v10
  go_wp2_with fail
  refine (markIntS_any (bestF s) Ag cg _ 1 _ yg (by omega) (by omega) (by omega)).mono ?_
  rintro e w11 ⟨rfl, m11, gm11⟩
  replace hB := below_mark hB yg.lt lyg gm11
  replace yw := yw.grown gm11 sywyg.symm.or
  replace bA := bA.grown gm11 (fun e => nygbA _ e.symm rfl)
  replace bq := bq.grown gm11 (fun e => nygbq _ e.symm rfl)
  clear gm11 yg
  have yg := m11
  clear m11
  go_wp2_with fail
  refine (heldIntS_any Ag cg (bestF s).length 1 _ yg.rd (by omega) (by omega) (by omega)).mono ?_
  rintro e w12 ⟨rfl, v12⟩
  replace yw := yw.below v12
  replace yg := yg.below v12
  replace bA := bA.below v12 bA.lt
  replace bq := bq.below v12 bq.lt
  replace hB := hB.trans (v12.mono hB.size)
  clear v12
  obtain ⟨bA0, bA1, bA2⟩ := loadS bA
  have bAl := bA.lt
  go_wp2_with fail
  refine (toStreet_any s G T c d _ ⟨hg0.below hB, ht0.below hB, by omega, by omega⟩ hlg hlt).mono ?_
  rintro e w13 ⟨Gu, Tu, cu, du, rfl, yu, zu, syuzu, v13⟩
  have lyu := hB.size
  have nyubA : ∀ b, blk Gu = some b → b ≠ w.heap.size := fun b h => by have h1 := (yu.lt b h).1; have h2 := bA.lt; omega
  have nyubq : ∀ b, blk Gu = some b → b ≠ w4.heap.size := fun b h => by have h1 := (yu.lt b h).1; have h2 := bq.lt; omega
  have sywyu := yw.sep yu (Nat.le_refl _)
  have sygyu := yg.sep yu (Nat.le_refl _)
  have lzu := hB.size
  have nzubA : ∀ b, blk Tu = some b → b ≠ w.heap.size := fun b h => by have h1 := (zu.lt b h).1; have h2 := bA.lt; omega
  have nzubq : ∀ b, blk Tu = some b → b ≠ w4.heap.size := fun b h => by have h1 := (zu.lt b h).1; have h2 := bq.lt; omega
  have sywzu := yw.sep zu (Nat.le_refl _)
  have sygzu := yg.sep zu (Nat.le_refl _)
  replace yw := yw.below v13
  replace yg := yg.below v13
  replace bA := bA.below v13 bA.lt
  replace bq := bq.below v13 bq.lt
  replace hB := hB.trans (v13.mono hB.size)
  clear v13
  clear bA0 bA1 bA2 bAl
  go_wp2_with fail
  refine (iBest_any s Gu Tu cu du _ ⟨yu.rd, zu.rd, by omega, by omega⟩).mono ?_
  rintro e w14 ⟨Ah, ch, rfl, yh, v14⟩
  have lyh := hB.size
  have nyhbA : ∀ b, blk Ah = some b → b ≠ w.heap.size := fun b h => by have h1 := (yh.lt b h).1; have h2 := bA.lt; omega
  have nyhbq : ∀ b, blk Ah = some b → b ≠ w4.heap.size := fun b h => by have h1 := (yh.lt b h).1; have h2 := bq.lt; omega
  have sywyh := yw.sep yh (Nat.le_refl _)
  have sygyh := yg.sep yh (Nat.le_refl _)
  have syuyh := yu.sep yh (Nat.le_refl _)
  have szuyh := zu.sep yh (Nat.le_refl _)
  replace yw := yw.below v14
  replace yg := yg.below v14
  replace yu := yu.below v14
  replace zu := zu.below v14
  replace bA := bA.below v14 bA.lt
  replace bq := bq.below v14 bq.lt
  replace hB := hB.trans (v14.mono hB.size)
  clear v14
  go_wp2_with fail
  refine (eqIntS_same (bestF s) Ah Aw ch cw _ yh.rd yw.rd (by omega)).mono ?_
  rintro e w15 ⟨rfl, v15⟩
  replace yw := yw.below v15
  replace yg := yg.below v15
  replace yu := yu.below v15
  replace zu := zu.below v15
  replace yh := yh.below v15
  replace bA := bA.below v15 bA.lt
  replace bq := bq.below v15 bq.lt
  replace hB := hB.trans (v15.mono hB.size)
  clear v15
  go_wp2_with fail
  refine (heldIntS_any Ag cg (bestF s).length 1 _ yg.rd (by omega) (by omega) (by omega)).mono ?_
  rintro e w16 ⟨rfl, v16⟩
  replace yw := yw.below v16
  replace yg := yg.below v16
  replace yu := yu.below v16
  replace zu := zu.below v16
  replace yh := yh.below v16
  replace bA := bA.below v16 bA.lt
  replace bq := bq.below v16 bq.lt
  replace hB := hB.trans (v16.mono hB.size)
  clear v16
  go_wp2_with fail
  go_ret
  exact ⟨rfl, hB⟩

set_option maxRecDepth 100000 in
theorem lifted (os : Os) (started : os.Started) (H : Type) (enc : TypeId × Value → H) :
    ReturnsInHanded {} Try.checked os 14 .any (Rows.fnExactBestOffsetsSpec.pre6 enc Try.prog Try.f14 Rows.fnExactBestOffsetsRow.domain false) (Rows.fnExactBestOffsetsSpec.post enc Try.prog Try.f14 false true false false) := by
  refine returnsInHanded_of_change (C := Try.checked) own started (by kernel_rfl) Try.func14
    (ChangeSpec.witness6 (enc := enc) (C := Try.checked) false ⟨#[], #[.agg #[.int .i64 0, .slice none 0 0, .slice none 0 0]], []⟩ 8 (by kernel_rfl) (by kernel_rfl) (by kernel_rfl) (by kernel_rfl)) ?_
  intro W base args ds gs before hval0 hW hcnd _
  have hval : ∀ (j : Nat) t v, Try.f14.params[j]? = some t → args[j]? = some v → Value.okWide Try.prog W .any base t v := hval0
  have hW' := hW
  obtain ⟨p, q, hA0, hV, rfl, hfz, hnd⟩ := hW
  have hA : DataW.TrodAll enc Try.prog W 0 (fun _ => true) true Try.f14.params.toList args.toList ds p := hA0
  rw [Try.params14] at hA hval
  obtain ⟨v0, vs0, d0, ds0, p0, q0, hargs, rfl, rfl, h0, r0⟩ := trodAll_cons hA
  obtain ⟨rfl, rfl, rfl⟩ := trodAll_nil r0
  obtain rfl : args = #[v0] := by cases args; simp_all
  obtain ⟨rfl, rfl⟩ := trodVars_none hV
  have k0 := h0
  have lt0 : ∀ x ∈ p0, x.block < W.heap.size := by obtain ⟨m, hm⟩ := k0; exact DataW.trod_lt m _ _ _ hm
  obtain ⟨cs0, n0, rfl, hcl0, hf0⟩ := open_struct Try.underlying24 (by kernel_rfl) (by kernel_rfl) (hval 0 24 v0 rfl rfl) h0
  obtain ⟨u0_0, y0_0, e0_0, t0_0⟩ := hf0 0 _ rfl
  obtain ⟨x0_0, rfl, w0_0⟩ := open_intF Try.underlying3 t0_0
  obtain ⟨u0_1, y0_1, e0_1, t0_1⟩ := hf0 1 _ rfl
  obtain ⟨A0_1, c0_1, z0_1, rfl, r0_1, l0_1, m0_1⟩ := open_intsF Try.underlying22 Try.underlying3 (by kernel_rfl) t0_1
  obtain ⟨u0_2, y0_2, e0_2, t0_2⟩ := hf0 2 _ rfl
  obtain ⟨A0_2, c0_2, z0_2, rfl, r0_2, l0_2, m0_2⟩ := open_intsF Try.underlying22 Try.underlying3 (by kernel_rfl) t0_2
  obtain rfl : cs0 = [.int .i64 x0_0, .slice A0_1 z0_1.length c0_1, .slice A0_2 z0_2.length c0_2] := list_3 hcl0 e0_0 e0_1 e0_2
  clear hA0 hval0
  refine (walk x0_0 z0_1 z0_2 A0_1 A0_2 c0_1 c0_2 W r0_1 r0_2 (Nat.le_trans l0_1 m0_1) (Nat.le_trans l0_2 m0_2) w0_0).mono fun e W' ⟨he, bel⟩ => ?_
  subst he
  exact ⟨_, rfl, _, _, _, [], _, [], hW', trodAll_mk1 (shut_bool Try.underlying4 _), (trodAll_cons_mk (Below.trod laidOut (by kernel_rfl) (of_decide_eq_true (by kernel_rfl)) k0 bel lt0) trodAll_mk0), rfl, bel.frame _, fun h => by cases h⟩

theorem over : Rows.fnExactBestOffsetsRow.holds Try.pinned (OpenSpec.ofChange Rows.fnExactBestOffsetsSpec) :=
  OpenClaim.holds_of_wide 14 Try.f14 rfl rfl rfl rfl rfl rfl rfl ⟨rfl, rfl, rfl, rfl, rfl⟩ rfl rfl rfl rfl rfl (by kernel_rfl) Try.func14 (by kernel_rfl)
    (of_decide_eq_true (by kernel_rfl)) (by unfold Func.isWrapper; first | (rw [if_pos (by decide +kernel)]; kernel_rfl) | (rw [if_neg (by decide +kernel)]; exact ⟨rfl, rfl⟩))
    (fun os started H enc _ => lifted os started H enc)

theorem proved : Rows.FnExactBestOffsetsSaid := over
end Go.Proofs.Ytmnapeefclkldaa.FnExactBestOffsets
