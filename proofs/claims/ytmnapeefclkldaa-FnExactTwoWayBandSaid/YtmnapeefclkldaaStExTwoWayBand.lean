/-
  The statement FnExactTwoWayBand: the program's function returns what the reference's returns.
-/
import Derived.Test.YtmnapeefclkldaaStEx
import Derived.Test.YtmnapeefclkldaaStTwo
namespace Go.Proofs.Ytmnapeefclkldaa.FnExactTwoWayBand
open Go.RowKit Go.ChangeShapes Go.WideShapes Go.ChangeAt Go.Proofs.Ytmnapeefclkldaa
set_option linter.unusedVariables false

set_option maxHeartbeats 6400000 in
theorem walk (cy : Int) (gr tr : List Int) (G T : Option Addr) (c d : Nat) (O : Option Addr) (f : Nat) (os : List Int) (w : World) (hg0 : RdL fI w G gr) (ht0 : RdL fI w T tr) (hn : gr.length ≤ maxLen) (hm : tr.length ≤ maxLen) (hcy : Lit.wf (.int .i64 cy) = true) (ho : RdL fI w O os) :
    Calls Try.prog 12 #[strV ⟨cy, gr, tr⟩ G T c d, .slice O os.length f] w fun e w' => e = .returned (.bool true) ∧ Below w.heap.size w w' := by
  by_cases hl1 : 1048576 < os.length
  · go_enter Try.func12, Try.ntmps12
    go_wp2_with fail
    go_ret
    exact ⟨rfl, (Below.refl _ _).alloc (Nat.le_refl _) _⟩
  obtain ⟨s, hs⟩ : ∃ s : St, s = ⟨cy, gr, tr⟩ := ⟨_, rfl⟩
  rw [← hs]
  have e1 : s.gr = gr := by rw [hs]
  have e2 : s.tr = tr := by rw [hs]
  rw [← e1] at hg0 hn
  rw [← e2] at ht0 hm
  clear e1 e2 hs hcy
  have bA := Blk.new w 24 (strC s G T c d)
  have hB := (Below.refl w.heap.size w).alloc (Nat.le_refl _) (.cells (strC s G T c d) 24)
  have hsz := szS_bd s
  go_enter Try.func12, Try.ntmps12
  go_wp2_with fail
  generalize w.alloc (.cells (strC s G T c d) 24) = w0 at *
  obtain ⟨bA0, bA1, bA2⟩ := loadS bA
  have bAl := bA.lt
  go_wp2_with fail
  refine (szStreet_any s G T c d _ hn hm).mono ?_
  rintro e w1 ⟨rfl, v1⟩
  replace bA := bA.below v1 bA.lt
  replace hB := hB.trans (v1.mono hB.size)
  clear v1
  clear bA0 bA1 bA2 bAl
  rcases hsz with hneg | ⟨hpos, hlg, hlt⟩
  · go_wp2_with fail
    go_ret
    exact ⟨rfl, hB⟩
  obtain ⟨bA0, bA1, bA2⟩ := loadS bA
  have bAl := bA.lt
  go_wp2_with fail
  refine (toStreet_any s G T c d _ ⟨hg0.below hB, ht0.below hB, by omega, by omega⟩ hlg hlt).mono ?_
  rintro e w2 ⟨Gp, Tp, cp, dp, rfl, yp, zp, sypzp, v2⟩
  have lyp := hB.size
  have nypbA : ∀ b, blk Gp = some b → b ≠ w.heap.size := fun b h => by have h1 := (yp.lt b h).1; have h2 := bA.lt; omega
  have lzp := hB.size
  have nzpbA : ∀ b, blk Tp = some b → b ≠ w.heap.size := fun b h => by have h1 := (zp.lt b h).1; have h2 := bA.lt; omega
  replace bA := bA.below v2 bA.lt
  replace hB := hB.trans (v2.mono hB.size)
  clear v2
  clear bA0 bA1 bA2 bAl
  go_wp2_with fail
  refine ((toIntS_any os O f _ (ho.below hB) (by omega)).mono fun _ _ h => h.s).mono ?_
  rintro e w3 ⟨Ap, fp, rfl, xp, v3⟩
  have lxp := hB.size
  have nxpbA : ∀ b, blk Ap = some b → b ≠ w.heap.size := fun b h => by have h1 := (xp.lt b h).1; have h2 := bA.lt; omega
  have sypxp := yp.sep xp (Nat.le_refl _)
  have szpxp := zp.sep xp (Nat.le_refl _)
  replace yp := yp.below v3
  replace zp := zp.below v3
  replace bA := bA.below v3 bA.lt
  replace hB := hB.trans (v3.mono hB.size)
  clear v3
  go_wp2_with fail
  refine (sTwo_any s os Gp Tp Ap cp dp fp _ ⟨yp.rd, zp.rd, by omega, by omega⟩ xp.rd (by omega)).mono ?_
  rintro e w4 ⟨rfl, v4⟩
  replace yp := yp.below v4
  replace zp := zp.below v4
  replace xp := xp.below v4
  replace bA := bA.below v4 bA.lt
  replace hB := hB.trans (v4.mono hB.size)
  clear v4
  clear yp zp xp
  obtain ⟨bA0, bA1, bA2⟩ := loadS bA
  have bAl := bA.lt
  go_wp2_with fail
  refine (toStreet_any s G T c d _ ⟨hg0.below hB, ht0.below hB, by omega, by omega⟩ hlg hlt).mono ?_
  rintro e w5 ⟨Gq, Tq, cq, dq, rfl, yq, zq, syqzq, v5⟩
  have lyq := hB.size
  have nyqbA : ∀ b, blk Gq = some b → b ≠ w.heap.size := fun b h => by have h1 := (yq.lt b h).1; have h2 := bA.lt; omega
  have lzq := hB.size
  have nzqbA : ∀ b, blk Tq = some b → b ≠ w.heap.size := fun b h => by have h1 := (zq.lt b h).1; have h2 := bA.lt; omega
  replace bA := bA.below v5 bA.lt
  replace hB := hB.trans (v5.mono hB.size)
  clear v5
  clear bA0 bA1 bA2 bAl
  go_wp2_with fail
  have nyqbq : ∀ b, blk Gq = some b → b ≠ w5.heap.size := fun b h => by have h1 := (yq.lt b h).2; omega
  have nzqbq : ∀ b, blk Tq = some b → b ≠ w5.heap.size := fun b h => by have h1 := (zq.lt b h).2; omega
  have bq := Blk.new w5 27 (strC s Gq Tq cq dq)
  replace yq := yq.alloc (.cells (strC s Gq Tq cq dq) 27)
  replace zq := zq.alloc (.cells (strC s Gq Tq cq dq) 27)
  replace bA := bA.alloc (.cells (strC s Gq Tq cq dq) 27)
  replace hB := hB.alloc hB.size (.cells (strC s Gq Tq cq dq) 27)
  generalize w5.alloc (.cells (strC s Gq Tq cq dq) 27) = w5b at *
  refine ((toIntS_any os O f _ (ho.below hB) (by omega)).mono fun _ _ h => h.s).mono ?_
  rintro e w6 ⟨Aq, fq, rfl, xq, v6⟩
  have lxq := hB.size
  have nxqbA : ∀ b, blk Aq = some b → b ≠ w.heap.size := fun b h => by have h1 := (xq.lt b h).1; have h2 := bA.lt; omega
  have nxqbq : ∀ b, blk Aq = some b → b ≠ w5.heap.size := fun b h => by have h1 := (xq.lt b h).1; have h2 := bq.lt; omega
  have syqxq := yq.sep xq (Nat.le_refl _)
  have szqxq := zq.sep xq (Nat.le_refl _)
  replace yq := yq.below v6
  replace zq := zq.below v6
  replace bA := bA.below v6 bA.lt
  replace bq := bq.below v6 bq.lt
  replace hB := hB.trans (v6.mono hB.size)
  clear v6
  obtain ⟨bq0, bq1, bq2⟩ := loadS bq
  have bql := bq.lt
  go_wp2_with fail
  refine (iTwo_any s os Gq Tq Aq cq dq fq _ ⟨yq.rd, zq.rd, by omega, by omega⟩ xq.rd (by omega)).mono ?_
  rintro e w7 ⟨rfl, v7⟩
  replace yq := yq.below v7
  replace zq := zq.below v7
  replace xq := xq.below v7
  replace bA := bA.below v7 bA.lt
  replace bq := bq.below v7 bq.lt
  replace hB := hB.trans (v7.mono hB.size)
  clear v7
  clear bq0 bq1 bq2 bql
  generalize twoF s os = v
  go_wp2_with fail
  obtain ⟨S, hS⟩ : ∃ S : World → Prop, S = fun x => Blk x w.heap.size 24 (strC s G T c d) ∧ Blk x w5.heap.size 27 (strC s Gq Tq cq dq) := ⟨_, rfl⟩
  have hS1 : ∀ x, S x → Blk x w.heap.size 24 (strC s G T c d) := fun x h => by rw [hS] at h; exact h.1
  have hS2 : ∀ x, S x → Blk x w5.heap.size 27 (strC s Gq Tq cq dq) := fun x h => by rw [hS] at h; exact h.2
  have hS3 : ∀ x, Blk x w.heap.size 24 (strC s G T c d) → Blk x w5.heap.size 27 (strC s Gq Tq cq dq) → S x := fun x h1 h2 => by rw [hS]; exact ⟨h1, h2⟩
  obtain ⟨k0, k1, k2⟩ := heldS hS1
  obtain ⟨j0, j1, j2⟩ := heldS hS2
  have HS3 := Lib.hid hS3
  clear hS hS1 hS2 hS3
  refine wp_region_plan S [0, 1] [2, 3, 4] (by kernel_rfl) (by kernel_rfl) (HS3.out _ bA.drew bq.drew) ?_
  intro hne
  simp only [List.filterMap_cons, List.filterMap_nil, List.getElem?_toArray, List.getElem?_cons_zero, List.getElem?_cons_succ]
  repeat (refine wpEarly_step (fun K hK => ?_); go_simp; refine hK _ ?_; clear hK K)
  refine wpEarly_nil ?_
  clear k0 k1 k2 j0 j1 j2 hne
  replace hB := hB.drew
  replace yq := yq.drew
  replace zq := zq.drew
  replace xq := xq.drew
  replace bA := bA.drew
  replace bq := bq.drew
  generalize w7.drew = w7d at *
  refine wpLate_step rfl (fun K hK => ?_)
  go_wp2_with fail
  refine (toStreet_any s G T c d _ ⟨hg0.below hB, ht0.below hB, by omega, by omega⟩ hlg hlt).mono ?_
  rintro e w8 ⟨Gr, Tr, cr, dr, rfl, yr, zr, -, v8⟩
  replace yq := yq.below v8
  replace zq := zq.below v8
  replace xq := xq.below v8
  replace bA := bA.below v8 bA.lt
  replace bq := bq.below v8 bq.lt
  replace hB := hB.trans (v8.mono hB.size)
  clear v8
  go_wp2_with fail
  refine ⟨HS3.out _ bA bq, ?_⟩
  refine wpLate_step rfl (fun K hK => ?_)
  go_wp2_with fail
  refine (eqStreet_same s Gq Tq Gr Tr cq dq cr dr _ ⟨yq.rd, zq.rd, by omega, by omega⟩ ⟨yr.rd, zr.rd, by omega, by omega⟩).mono ?_
  rintro e w9 ⟨rfl, v9⟩
  replace yq := yq.below v9
  replace zq := zq.below v9
  replace xq := xq.below v9
  replace bA := bA.below v9 bA.lt
  replace bq := bq.below v9 bq.lt
  replace hB := hB.trans (v9.mono hB.size)
  clear v9
  go_wp2_with fail
  refine ⟨HS3.out _ bA bq, ?_⟩
  refine wpLate_step rfl (fun K hK => ?_)
  go_wp2_with fail
  refine ⟨HS3.out _ bA bq, ?_⟩
  refine wpLate_nil (NoPanic.normal ?_)
  clear HS3
  go_wp2_with fail
  refine ((toIntS_any os O f _ (ho.below hB) (by omega)).mono fun _ _ h => h.s).mono ?_
  rintro e w10 ⟨Au, fu, rfl, xu, v10⟩
  have lxu := hB.size
  have nxubA : ∀ b, blk Au = some b → b ≠ w.heap.size := fun b h => by have h1 := (xu.lt b h).1; have h2 := bA.lt; omega
  have nxubq : ∀ b, blk Au = some b → b ≠ w5.heap.size := fun b h => by have h1 := (xu.lt b h).1; have h2 := bq.lt; omega
  have syqxu := yq.sep xu (Nat.le_refl _)
  have szqxu := zq.sep xu (Nat.le_refl _)
  have sxqxu := xq.sep xu (Nat.le_refl _)
  replace yq := yq.below v10
  replace zq := zq.below v10
  replace xq := xq.below v10
  replace bA := bA.below v10 bA.lt
  replace bq := bq.below v10 bq.lt
  replace hB := hB.trans (v10.mono hB.size)
  clear v10
  go_wp2_with fail
  refine (eqIntS_same os Aq Au fq fu _ xq.rd xu.rd (by omega)).mono ?_
  rintro e w11 ⟨rfl, v11⟩
  replace yq := yq.below v11
  replace zq := zq.below v11
  replace xq := xq.below v11
  replace xu := xu.below v11
  replace bA := bA.below v11 bA.lt
  replace bq := bq.below v11 bq.lt
  replace hB := hB.trans (v11.mono hB.size)
  clear v11
  go_wp2_with fail
  go_ret
  exact ⟨rfl, hB⟩

set_option maxRecDepth 100000 in
theorem lifted (os : Os) (started : os.Started) (H : Type) (enc : TypeId × Value → H) :
    ReturnsInHanded {} Try.checked os 12 .any (Rows.fnExactTwoWayBandSpec.pre6 enc Try.prog Try.f12 Rows.fnExactTwoWayBandRow.domain false) (Rows.fnExactTwoWayBandSpec.post enc Try.prog Try.f12 false true false false) := by
  refine returnsInHanded_of_change (C := Try.checked) own started (by kernel_rfl) Try.func12
    (ChangeSpec.witness6 (enc := enc) (C := Try.checked) false ⟨#[], #[.agg #[.int .i64 0, .slice none 0 0, .slice none 0 0], .slice none 0 0], []⟩ 8 (by kernel_rfl) (by kernel_rfl) (by kernel_rfl) (by kernel_rfl)) ?_
  intro W base args ds gs before hval0 hW hcnd _
  have hval : ∀ (j : Nat) t v, Try.f12.params[j]? = some t → args[j]? = some v → Value.okWide Try.prog W .any base t v := hval0
  have hW' := hW
  obtain ⟨p, q, hA0, hV, rfl, hfz, hnd⟩ := hW
  have hA : DataW.TrodAll enc Try.prog W 0 (fun _ => true) true Try.f12.params.toList args.toList ds p := hA0
  rw [Try.params12] at hA hval
  obtain ⟨v0, vs0, d0, ds0, p0, q0, hargs, rfl, rfl, h0, r0⟩ := trodAll_cons hA
  obtain ⟨v1, vs1, d1, ds1, p1, q1, rfl, rfl, rfl, h1, r1⟩ := trodAll_cons r0
  obtain ⟨rfl, rfl, rfl⟩ := trodAll_nil r1
  obtain rfl : args = #[v0, v1] := by cases args; simp_all
  obtain ⟨rfl, rfl⟩ := trodVars_none hV
  have k0 := h0
  have lt0 : ∀ x ∈ p0, x.block < W.heap.size := by obtain ⟨m, hm⟩ := k0; exact DataW.trod_lt m _ _ _ hm
  obtain ⟨cs0, n0, rfl, hcl0, hf0⟩ := open_struct Try.underlying24 (by kernel_rfl) (by kernel_rfl) (hval 0 24 v0 rfl rfl) h0
  obtain ⟨u0_0, y0_0, e0_0, t0_0⟩ := hf0 0 _ rfl
  obtain ⟨x0_0, rfl, w0_0⟩ := open_intF Try.underlying3 t0_0
  obtain ⟨u0_1, y0_1, e0_1, t0_1⟩ := hf0 1 _ rfl
  obtain ⟨A0_1, c0_1, z0_1, rfl, r0_1, l0_1, m0_1⟩ := open_intsF Try.underlying22 Try.underlying3 (by kernel_rfl) t0_1
  obtain ⟨u0_2, y0_2, e0_2, t0_2⟩ := hf0 2 _ rfl
  obtain ⟨A0_2, c0_2, z0_2, rfl, r0_2, l0_2, m0_2⟩ := open_intsF Try.underlying22 Try.underlying3 (by kernel_rfl) t0_2
  obtain rfl : cs0 = [.int .i64 x0_0, .slice A0_1 z0_1.length c0_1, .slice A0_2 z0_2.length c0_2] := list_3 hcl0 e0_0 e0_1 e0_2
  have k1 := h1
  have lt1 : ∀ x ∈ p1, x.block < W.heap.size := by obtain ⟨m, hm⟩ := k1; exact DataW.trod_lt m _ _ _ hm
  obtain ⟨a1, len1, cap1, rfl⟩ := okWide_slice Try.underlying22 (hval 1 22 v1 rfl rfl)
  obtain ⟨z1, rfl, w1, hc1, wf1⟩ := open_intsAt Try.underlying22 Try.underlying3 (by kernel_rfl) h1
  clear hA0 hval0
  refine (walk x0_0 z0_1 z0_2 A0_1 A0_2 c0_1 c0_2 a1 cap1 z1 W r0_1 r0_2 (Nat.le_trans l0_1 m0_1) (Nat.le_trans l0_2 m0_2) w0_0 w1).mono fun e W' ⟨he, bel⟩ => ?_
  subst he
  exact ⟨_, rfl, _, _, _, [], _, [], hW', trodAll_mk1 (shut_bool Try.underlying4 _), (trodAll_cons_mk (Below.trod laidOut (by kernel_rfl) (of_decide_eq_true (by kernel_rfl)) k0 bel lt0) (trodAll_cons_mk (Below.trod laidOut (by kernel_rfl) (of_decide_eq_true (by kernel_rfl)) k1 bel lt1) trodAll_mk0)), rfl, bel.frame _, fun h => by cases h⟩

theorem over : Rows.fnExactTwoWayBandRow.holds Try.pinned (OpenSpec.ofChange Rows.fnExactTwoWayBandSpec) :=
  OpenClaim.holds_of_wide 12 Try.f12 rfl rfl rfl rfl rfl rfl rfl ⟨rfl, rfl, rfl, rfl, rfl⟩ rfl rfl rfl rfl rfl (by kernel_rfl) Try.func12 (by kernel_rfl)
    (of_decide_eq_true (by kernel_rfl)) (by unfold Func.isWrapper; first | (rw [if_pos (by decide +kernel)]; kernel_rfl) | (rw [if_neg (by decide +kernel)]; exact ⟨rfl, rfl⟩))
    (fun os started H enc _ => lifted os started H enc)

theorem proved : Rows.FnExactTwoWayBandSaid := over
end Go.Proofs.Ytmnapeefclkldaa.FnExactTwoWayBand
