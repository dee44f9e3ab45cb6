/-
  The statement FnExactWorstLoad: the program's function returns what the reference's returns.
-/
import Derived.Test.YtknddadgmbkpnaaOpen
import Derived.Test.YtknddadgmbkpnaaWorst
namespace Go.Proofs.Ytknddadgmbkpnaa.FnExactWorstLoad
open Go.RowKit Go.ChangeShapes Go.WideShapes Go.ChangeAt Go.Proofs.Ytknddadgmbkpnaa
set_option linter.unusedVariables false

set_option maxHeartbeats 1600000 in
theorem walk (A : Option Addr) (cA : Nat) (ar : List Int) (B : Option Addr) (cB : Nat) (gr : List Int) (w : World) (ha : RdL fI w A ar) (hb : RdL fI w B gr) :
    Calls Try.prog 3 #[.slice A ar.length cA, .slice B gr.length cB] w fun e w' => e = .returned (.bool true) ∧ Below w.heap.size w w' := by
  by_cases hl1 : 1048576 < ar.length
  · go_enter Try.func3, Try.ntmps3
    go_wp2_with fail
    go_ret
    exact ⟨rfl, Below.refl _ _⟩
  by_cases hl2 : 1048576 < gr.length
  · go_enter Try.func3, Try.ntmps3
    go_wp2_with fail
    go_ret
    exact ⟨rfl, Below.refl _ _⟩
  obtain ⟨p, q, hpq⟩ : ∃ p q, worstF ar gr = (p, q) := ⟨_, _, rfl⟩
  have hS := fun A B c d w ha hb => sWorst_any ar gr A B c d w ha hb (by omega) (by omega)
  have hI := fun A B c d w ha hb => iWorst_any ar gr A B c d w ha hb (by omega) (by omega)
  rw [hpq] at hS hI
  simp only at hS hI
  clear hpq
  go_enter Try.func3, Try.ntmps3
  go_wp2_with fail
  refine (toIntS_any ar A cA _ ha (by omega)).mono ?_
  rintro e w1 ⟨A1, c1, rfl, t1, b1⟩
  replace t1 := t1.o
  have hB := b1
  have hz1 := hB.size
  clear b1
  go_wp2_with fail
  refine (toIntS_any gr B cB _ (hb.below hB) (by omega)).mono ?_
  rintro e w2 ⟨A2, c2, rfl, t2, b2⟩
  replace t2 := t2.o
  replace hB := hB.trans (b2.mono hz1)
  replace t1 := t1.below b2
  have hz2 := hB.size
  clear b2
  go_wp2_with fail
  refine (hS A1 A2 c1 c2 _ t1.rd t2.rd).mono ?_
  rintro e w3 ⟨rfl, b3⟩
  replace hB := hB.trans (b3.mono hz2)
  have hz3 := hB.size
  clear b3 t1 t2
  go_wp2_with fail
  refine (toIntS_any ar A cA _ (ha.below hB) (by omega)).mono ?_
  rintro e w4 ⟨A4, c4, rfl, x0, b4⟩
  replace x0 := x0.o.rd
  replace hB := hB.trans (b4.mono hz3)
  have hz4 := hB.size
  clear b4
  go_wp2_with fail
  refine (toIntS_any gr B cB _ (hb.below hB) (by omega)).mono ?_
  rintro e w5 ⟨A5, c5, rfl, x1, b5⟩
  replace x1 := x1.o.rd
  replace x0 := x0.below b5
  replace hB := hB.trans (b5.mono hz4)
  have hz5 := hB.size
  clear b5
  go_wp2_with fail
  refine (hI A4 A5 c4 c5 _ x0 x1).mono ?_
  rintro e w6 ⟨rfl, b6⟩
  replace x0 := x0.below b6
  replace x1 := x1.below b6
  replace hB := hB.trans (b6.mono hz5)
  have hz6 := hB.size
  clear b6
  go_wp2_with fail
  refine (toIntS_any ar A cA _ (ha.below hB) (by omega)).mono ?_
  rintro e w7 ⟨A7, c7, rfl, t3, b7⟩
  replace t3 := t3.o.rd
  replace x0 := x0.below b7
  replace x1 := x1.below b7
  replace hB := hB.trans (b7.mono hz6)
  have hz7 := hB.size
  clear b7
  go_wp2_with fail
  refine (eqIntS_same ar A4 A7 c4 c7 _ x0 t3 (by omega)).mono ?_
  rintro e w8 ⟨rfl, b8⟩
  replace x1 := x1.below b8
  replace hB := hB.trans (b8.mono hz7)
  have hz8 := hB.size
  clear b8 t3 x0
  go_wp2_with fail
  refine (toIntS_any gr B cB _ (hb.below hB) (by omega)).mono ?_
  rintro e w9 ⟨A9, c9, rfl, t4, b9⟩
  replace t4 := t4.o.rd
  replace x1 := x1.below b9
  replace hB := hB.trans (b9.mono hz8)
  have hz9 := hB.size
  clear b9
  go_wp2_with fail
  refine (eqIntS_same gr A5 A9 c5 c9 _ x1 t4 (by omega)).mono ?_
  rintro e w10 ⟨rfl, b10⟩
  replace hB := hB.trans (b10.mono hz9)
  clear b10
  go_wp2_with fail
  go_ret
  exact ⟨rfl, hB⟩

set_option maxRecDepth 100000 in
theorem lifted (os : Os) (started : os.Started) (H : Type) (enc : TypeId × Value → H) :
    ReturnsInHanded {} Try.checked os 3 .any (Rows.fnExactWorstLoadSpec.pre6 enc Try.prog Try.f3 Rows.fnExactWorstLoadRow.domain false) (Rows.fnExactWorstLoadSpec.post enc Try.prog Try.f3 false true false false) := by
  refine returnsInHanded_of_change (C := Try.checked) own started (by kernel_rfl) Try.func3
    (ChangeSpec.witness6 (enc := enc) (C := Try.checked) false ⟨#[], #[.slice none 0 0, .slice none 0 0], []⟩ 8 (by kernel_rfl) (by kernel_rfl) (by kernel_rfl) (by kernel_rfl)) ?_
  intro W base args ds gs before hval0 hW hcnd _
  have hval : ∀ (j : Nat) t v, Try.f3.params[j]? = some t → args[j]? = some v → Value.okWide Try.prog W .any base t v := hval0
  have hW' := hW
  obtain ⟨p, q, hA0, hV, rfl, hfz, hnd⟩ := hW
  have hA : DataW.TrodAll enc Try.prog W 0 (fun _ => true) true Try.f3.params.toList args.toList ds p := hA0
  rw [Try.params3] at hA hval
  obtain ⟨v0, vs0, d0, ds0, p0, q0, hargs, rfl, rfl, h0, r0⟩ := trodAll_cons hA
  obtain ⟨v1, vs1, d1, ds1, p1, q1, rfl, rfl, rfl, h1, r1⟩ := trodAll_cons r0
  obtain ⟨rfl, rfl, rfl⟩ := trodAll_nil r1
  obtain rfl : args = #[v0, v1] := by cases args; simp_all
  obtain ⟨rfl, rfl⟩ := trodVars_none hV
  have k0 := h0
  have lt0 : ∀ x ∈ p0, x.block < W.heap.size := by obtain ⟨m, hm⟩ := k0; exact DataW.trod_lt m _ _ _ hm
  obtain ⟨a0, len0, cap0, rfl⟩ := okWide_slice Try.underlying22 (hval 0 22 v0 rfl rfl)
  obtain ⟨z0, rfl, w0, hc0, wf0⟩ := open_intsAt Try.underlying22 Try.underlying3 (by kernel_rfl) h0
  have k1 := h1
  have lt1 : ∀ x ∈ p1, x.block < W.heap.size := by obtain ⟨m, hm⟩ := k1; exact DataW.trod_lt m _ _ _ hm
  obtain ⟨a1, len1, cap1, rfl⟩ := okWide_slice Try.underlying22 (hval 1 22 v1 rfl rfl)
  obtain ⟨z1, rfl, w1, hc1, wf1⟩ := open_intsAt Try.underlying22 Try.underlying3 (by kernel_rfl) h1
  clear hA0 hval0
  refine (walk a0 cap0 z0 a1 cap1 z1 W w0 w1).mono fun e W' ⟨he, bel⟩ => ?_
  subst he
  exact ⟨_, rfl, _, _, _, [], _, [], hW', trodAll_mk1 (shut_bool Try.underlying4 _), (trodAll_cons_mk (Below.trod laidOut (by kernel_rfl) (of_decide_eq_true (by kernel_rfl)) k0 bel lt0) (trodAll_cons_mk (Below.trod laidOut (by kernel_rfl) (of_decide_eq_true (by kernel_rfl)) k1 bel lt1) trodAll_mk0)), rfl, bel.frame _, fun h => by cases h⟩

theorem over : Rows.fnExactWorstLoadRow.holds Try.pinned (OpenSpec.ofChange Rows.fnExactWorstLoadSpec) :=
  OpenClaim.holds_of_wide 3 Try.f3 rfl rfl rfl rfl rfl rfl rfl ⟨rfl, rfl, rfl, rfl, rfl⟩ rfl rfl rfl rfl rfl (by kernel_rfl) Try.func3 (by kernel_rfl)
    (of_decide_eq_true (by kernel_rfl)) (by unfold Func.isWrapper; first | (rw [if_pos (by decide +kernel)]; kernel_rfl) | (rw [if_neg (by decide +kernel)]; exact ⟨rfl, rfl⟩))
    (fun os started H enc _ => lifted os started H enc)

theorem proved : Rows.FnExactWorstLoadSaid := over
end Go.Proofs.Ytknddadgmbkpnaa.FnExactWorstLoad
