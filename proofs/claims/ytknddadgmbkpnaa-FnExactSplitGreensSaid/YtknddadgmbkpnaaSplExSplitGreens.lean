/-
  The statement FnExactSplitGreens: the program's function returns what the reference's returns.
-/
import Derived.Test.YtknddadgmbkpnaaOpen
import Derived.Test.YtknddadgmbkpnaaSplImpl
namespace Go.Proofs.Ytknddadgmbkpnaa.FnExactSplitGreens
open Go.RowKit Go.ChangeShapes Go.WideShapes Go.ChangeAt Go.Proofs.Ytknddadgmbkpnaa
set_option linter.unusedVariables false

set_option maxHeartbeats 1600000 in
theorem walk (total : Int) (A : Option Addr) (cA : Nat) (ar : List Int) (B : Option Addr) (cB : Nat) (gr : List Int) (w : World) (hx : (Lit.int .i64 total).wf = true) (ha : RdL fI w A ar) (hb : RdL fI w B gr) :
    Calls Try.prog 6 #[.int .i64 total, .slice A ar.length cA, .slice B gr.length cB] w fun e w' => e = .returned (.bool true) ∧ Below w.heap.size w w' := by
  by_cases hl1 : 1048576 < ar.length
  · go_enter Try.func6, Try.ntmps6
    go_wp2_with fail
    go_ret
    exact ⟨rfl, Below.refl _ _⟩
  by_cases hl2 : 1048576 < gr.length
  · go_enter Try.func6, Try.ntmps6
    go_wp2_with fail
    go_ret
    exact ⟨rfl, Below.refl _ _⟩
  have hR : (splitF total ar gr).length ≤ 150 := by
    cases hv : validS total ar gr with
    | true =>
      have h1 := splitF_len hv
      have h2 := (validS_parts hv).2.1
      omega
    | false => simp [splitF, hv]
  go_enter Try.func6, Try.ntmps6
  go_wp2_with fail
  refine ((toIntS_any ar A cA _ ha (by omega))).mono ?_
  rintro e w1 ⟨At1, ct1, rfl, t1, b1⟩
  replace t1 := t1.o
  have hB := b1
  have hz1 := b1.size
  clear b1
  go_wp2_with fail
  refine ((toIntS_any gr B cB _ (hb.below hB) (by omega))).mono ?_
  rintro e w2 ⟨At2, ct2, rfl, t2, b2⟩
  replace t2 := t2.o
  replace hB := hB.trans (b2.mono hB.size)
  replace t1 := t1.below b2
  have hz2 := b2.size
  clear b2
  go_wp2_with fail
  refine (sSplit_any total ar gr At1 At2 ct1 ct2 _ t1.rd t2.rd (by omega) (by omega)).mono ?_
  rintro e w3 ⟨Aw0, cw0, rfl, w0, b3⟩
  replace hB := hB.trans (b3.mono hB.size)
  replace t1 := t1.below b3
  replace t2 := t2.below b3
  have hz3 := b3.size
  clear b3
  clear t1 t2
  go_wp2_with fail
  refine ((toIntS_any ar A cA _ (ha.below hB) (by omega))).mono ?_
  rintro e w4 ⟨Ax0, cx0, rfl, x0, b4⟩
  replace x0 := x0.o
  have sw0x0 := w0.sep x0 (Nat.le_refl _)
  replace hB := hB.trans (b4.mono hB.size)
  replace w0 := w0.below b4
  have hz4 := b4.size
  clear b4
  go_wp2_with fail
  refine ((toIntS_any gr B cB _ (hb.below hB) (by omega))).mono ?_
  rintro e w5 ⟨Ax1, cx1, rfl, x1, b5⟩
  replace x1 := x1.o
  have sw0x1 := w0.sep x1 (Nat.le_refl _)
  have sx0x1 := x0.sep x1 (Nat.le_refl _)
  replace hB := hB.trans (b5.mono hB.size)
  replace w0 := w0.below b5
  replace x0 := x0.below b5
  have hz5 := b5.size
  clear b5
  go_wp2_with fail
  refine (iSplit_any total ar gr Ax0 Ax1 cx0 cx1 _ x0.rd x1.rd (by omega) (by omega)).mono ?_
  rintro e w6 ⟨Ag0, cg0, rfl, g0, b6⟩
  have sx0g0 := x0.sep g0 (Nat.le_refl _)
  have sx1g0 := x1.sep g0 (Nat.le_refl _)
  have sw0g0 := w0.sep g0 (Nat.le_refl _)
  replace hB := hB.trans (b6.mono hB.size)
  replace w0 := w0.below b6
  replace x0 := x0.below b6
  replace x1 := x1.below b6
  have hz6 := b6.size
  clear b6
  go_wp2_with fail
  refine (eqIntS_same (splitF total ar gr) Ag0 Aw0 cg0 cw0 _ g0.rd w0.rd (by omega)).mono ?_
  rintro e w7 ⟨rfl, b7⟩
  replace hB := hB.trans (b7.mono hB.size)
  replace w0 := w0.below b7
  replace x0 := x0.below b7
  replace x1 := x1.below b7
  replace g0 := g0.below b7
  have hz7 := b7.size
  clear b7
  go_wp2_with fail
  refine ((toIntS_any ar A cA _ (ha.below hB) (by omega))).mono ?_
  rintro e w8 ⟨At3, ct3, rfl, t3, b8⟩
  replace t3 := t3.o
  replace hB := hB.trans (b8.mono hB.size)
  replace w0 := w0.below b8
  replace x0 := x0.below b8
  replace x1 := x1.below b8
  replace g0 := g0.below b8
  have hz8 := b8.size
  clear b8
  go_wp2_with fail
  refine (eqIntS_same ar Ax0 At3 cx0 ct3 _ x0.rd t3.rd (by omega)).mono ?_
  rintro e w9 ⟨rfl, b9⟩
  replace hB := hB.trans (b9.mono hB.size)
  replace w0 := w0.below b9
  replace x0 := x0.below b9
  replace x1 := x1.below b9
  replace g0 := g0.below b9
  replace t3 := t3.below b9
  have hz9 := b9.size
  clear b9
  clear t3
  go_wp2_with fail
  refine ((toIntS_any gr B cB _ (hb.below hB) (by omega))).mono ?_
  rintro e w10 ⟨At4, ct4, rfl, t4, b10⟩
  replace t4 := t4.o
  replace hB := hB.trans (b10.mono hB.size)
  replace w0 := w0.below b10
  replace x0 := x0.below b10
  replace x1 := x1.below b10
  replace g0 := g0.below b10
  have hz10 := b10.size
  clear b10
  go_wp2_with fail
  refine (eqIntS_same gr Ax1 At4 cx1 ct4 _ x1.rd t4.rd (by omega)).mono ?_
  rintro e w11 ⟨rfl, b11⟩
  replace hB := hB.trans (b11.mono hB.size)
  replace w0 := w0.below b11
  replace x0 := x0.below b11
  replace x1 := x1.below b11
  replace g0 := g0.below b11
  replace t4 := t4.below b11
  have hz11 := b11.size
  clear b11
  clear t4
  go_wp2_with fail
  refine (markIntS_any ar Ax0 cx0 _ (1) _ x0 (by omega) (by omega) (by omega)).mono ?_
  rintro e w12 ⟨rfl, m12, gm12⟩
  replace hB := below_mark hB x0.lt (by omega) gm12
  replace x1 := x1.grown gm12 sx0x1.or
  replace g0 := g0.grown gm12 sx0g0.or
  replace w0 := w0.grown gm12 sw0x0.symm.or
  have hz12 := gm12.size
  clear gm12 x0
  clear m12
  go_wp2_with fail
  refine (markIntS_any gr Ax1 cx1 _ (1 + (ar.length : Int)) _ x1 (by omega) (by omega) (by omega)).mono ?_
  rintro e w13 ⟨rfl, m13, gm13⟩
  replace hB := below_mark hB x1.lt (by omega) gm13
  replace g0 := g0.grown gm13 sx1g0.or
  replace w0 := w0.grown gm13 sw0x1.symm.or
  have hz13 := gm13.size
  clear gm13 x1
  clear m13
  go_wp2_with fail
  refine (eqIntS_same (splitF total ar gr) Ag0 Aw0 cg0 cw0 _ g0.rd w0.rd (by omega)).mono ?_
  rintro e w14 ⟨rfl, b14⟩
  replace hB := hB.trans (b14.mono hB.size)
  replace w0 := w0.below b14
  replace g0 := g0.below b14
  have hz14 := b14.size
  clear b14
  go_wp2_with fail
  refine (markIntS_any (splitF total ar gr) Ag0 cg0 _ (1) _ g0 (by omega) (by omega) (by omega)).mono ?_
  rintro e w15 ⟨rfl, m15, gm15⟩
  replace hB := below_mark hB g0.lt (by omega) gm15
  replace w0 := w0.grown gm15 sw0g0.symm.or
  have hz15 := gm15.size
  clear gm15 g0
  have g0 := m15
  clear m15
  go_wp2_with fail
  refine (heldIntS_any Ag0 cg0 (splitF total ar gr).length 1 _ g0.rd (by omega) (by omega) (by omega)).mono ?_
  rintro e w16 ⟨rfl, b16⟩
  replace hB := hB.trans (b16.mono hB.size)
  replace w0 := w0.below b16
  replace g0 := g0.below b16
  have hz16 := b16.size
  clear b16
  go_wp2_with fail
  refine ((toIntS_any ar A cA _ (ha.below hB) (by omega))).mono ?_
  rintro e w17 ⟨At5, ct5, rfl, t5, b17⟩
  replace t5 := t5.o
  replace hB := hB.trans (b17.mono hB.size)
  replace w0 := w0.below b17
  replace g0 := g0.below b17
  have hz17 := b17.size
  clear b17
  go_wp2_with fail
  refine ((toIntS_any gr B cB _ (hb.below hB) (by omega))).mono ?_
  rintro e w18 ⟨At6, ct6, rfl, t6, b18⟩
  replace t6 := t6.o
  replace hB := hB.trans (b18.mono hB.size)
  replace w0 := w0.below b18
  replace g0 := g0.below b18
  replace t5 := t5.below b18
  have hz18 := b18.size
  clear b18
  go_wp2_with fail
  refine (iSplit_any total ar gr At5 At6 ct5 ct6 _ t5.rd t6.rd (by omega) (by omega)).mono ?_
  rintro e w19 ⟨Ah0, ch0, rfl, h0, b19⟩
  replace hB := hB.trans (b19.mono hB.size)
  replace w0 := w0.below b19
  replace g0 := g0.below b19
  replace t5 := t5.below b19
  replace t6 := t6.below b19
  have hz19 := b19.size
  clear b19
  go_wp2_with fail
  refine (eqIntS_same (splitF total ar gr) Ah0 Aw0 ch0 cw0 _ h0.rd w0.rd (by omega)).mono ?_
  rintro e w20 ⟨rfl, b20⟩
  replace hB := hB.trans (b20.mono hB.size)
  replace w0 := w0.below b20
  replace g0 := g0.below b20
  replace t5 := t5.below b20
  replace t6 := t6.below b20
  replace h0 := h0.below b20
  have hz20 := b20.size
  clear b20
  go_wp2_with fail
  refine (heldIntS_any Ag0 cg0 (splitF total ar gr).length 1 _ g0.rd (by omega) (by omega) (by omega)).mono ?_
  rintro e w21 ⟨rfl, b21⟩
  replace hB := hB.trans (b21.mono hB.size)
  replace w0 := w0.below b21
  replace g0 := g0.below b21
  replace t5 := t5.below b21
  replace t6 := t6.below b21
  replace h0 := h0.below b21
  have hz21 := b21.size
  clear b21
  go_wp2_with fail
  go_ret
  exact ⟨rfl, hB⟩

set_option maxRecDepth 100000 in
theorem lifted (os : Os) (started : os.Started) (H : Type) (enc : TypeId × Value → H) :
    ReturnsInHanded {} Try.checked os 6 .any (Rows.fnExactSplitGreensSpec.pre6 enc Try.prog Try.f6 Rows.fnExactSplitGreensRow.domain false) (Rows.fnExactSplitGreensSpec.post enc Try.prog Try.f6 false true false false) := by
  refine returnsInHanded_of_change (C := Try.checked) own started (by kernel_rfl) Try.func6
    (ChangeSpec.witness6 (enc := enc) (C := Try.checked) false ⟨#[], #[.int .i64 0, .slice none 0 0, .slice none 0 0], []⟩ 8 (by kernel_rfl) (by kernel_rfl) (by kernel_rfl) (by kernel_rfl)) ?_
  intro W base args ds gs before hval0 hW hcnd _
  have hval : ∀ (j : Nat) t v, Try.f6.params[j]? = some t → args[j]? = some v → Value.okWide Try.prog W .any base t v := hval0
  have hW' := hW
  obtain ⟨p, q, hA0, hV, rfl, hfz, hnd⟩ := hW
  have hA : DataW.TrodAll enc Try.prog W 0 (fun _ => true) true Try.f6.params.toList args.toList ds p := hA0
  rw [Try.params6] at hA hval
  obtain ⟨v0, vs0, d0, ds0, p0, q0, hargs, rfl, rfl, h0, r0⟩ := trodAll_cons hA
  obtain ⟨v1, vs1, d1, ds1, p1, q1, rfl, rfl, rfl, h1, r1⟩ := trodAll_cons r0
  obtain ⟨v2, vs2, d2, ds2, p2, q2, rfl, rfl, rfl, h2, r2⟩ := trodAll_cons r1
  obtain ⟨rfl, rfl, rfl⟩ := trodAll_nil r2
  obtain rfl : args = #[v0, v1, v2] := by cases args; simp_all
  obtain ⟨rfl, rfl⟩ := trodVars_none hV
  have k0 := h0
  have lt0 : ∀ x ∈ p0, x.block < W.heap.size := by obtain ⟨m, hm⟩ := k0; exact DataW.trod_lt m _ _ _ hm
  obtain ⟨x0, rfl, rfl, rfl, w0⟩ := open_int Try.underlying3 (hval 0 3 v0 rfl rfl) h0
  have k1 := h1
  have lt1 : ∀ x ∈ p1, x.block < W.heap.size := by obtain ⟨m, hm⟩ := k1; exact DataW.trod_lt m _ _ _ hm
  obtain ⟨a1, len1, cap1, rfl⟩ := okWide_slice Try.underlying22 (hval 1 22 v1 rfl rfl)
  obtain ⟨z1, rfl, w1, hc1, wf1⟩ := open_intsAt Try.underlying22 Try.underlying3 (by kernel_rfl) h1
  have k2 := h2
  have lt2 : ∀ x ∈ p2, x.block < W.heap.size := by obtain ⟨m, hm⟩ := k2; exact DataW.trod_lt m _ _ _ hm
  obtain ⟨a2, len2, cap2, rfl⟩ := okWide_slice Try.underlying22 (hval 2 22 v2 rfl rfl)
  obtain ⟨z2, rfl, w2, hc2, wf2⟩ := open_intsAt Try.underlying22 Try.underlying3 (by kernel_rfl) h2
  clear hA0 hval0
  refine (walk x0 a1 cap1 z1 a2 cap2 z2 W w0 w1 w2).mono fun e W' ⟨he, bel⟩ => ?_
  subst he
  exact ⟨_, rfl, _, _, _, [], _, [], hW', trodAll_mk1 (shut_bool Try.underlying4 _), (trodAll_cons_mk (shut_int Try.underlying3 w0) (trodAll_cons_mk (Below.trod laidOut (by kernel_rfl) (of_decide_eq_true (by kernel_rfl)) k1 bel lt1) (trodAll_cons_mk (Below.trod laidOut (by kernel_rfl) (of_decide_eq_true (by kernel_rfl)) k2 bel lt2) trodAll_mk0))), rfl, bel.frame _, fun h => by cases h⟩

theorem over : Rows.fnExactSplitGreensRow.holds Try.pinned (OpenSpec.ofChange Rows.fnExactSplitGreensSpec) :=
  OpenClaim.holds_of_wide 6 Try.f6 rfl rfl rfl rfl rfl rfl rfl ⟨rfl, rfl, rfl, rfl, rfl⟩ rfl rfl rfl rfl rfl (by kernel_rfl) Try.func6 (by kernel_rfl)
    (of_decide_eq_true (by kernel_rfl)) (by unfold Func.isWrapper; first | (rw [if_pos (by decide +kernel)]; kernel_rfl) | (rw [if_neg (by decide +kernel)]; exact ⟨rfl, rfl⟩))
    (fun os started H enc _ => lifted os started H enc)

theorem proved : Rows.FnExactSplitGreensSaid := over
end Go.Proofs.Ytknddadgmbkpnaa.FnExactSplitGreens
