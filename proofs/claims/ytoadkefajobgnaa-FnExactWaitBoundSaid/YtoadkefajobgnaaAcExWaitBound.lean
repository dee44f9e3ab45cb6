/-
  The statement FnExactWaitBound: the program's function returns what the reference's returns.
-/
import Derived.Test.YtoadkefajobgnaaAcEx
namespace Go.Proofs.Ytoadkefajobgnaa.FnExactWaitBound
open Go.RowKit Go.ChangeShapes Go.WideShapes Go.ChangeAt Go.Proofs.Ytoadkefajobgnaa
set_option linter.unusedVariables false

set_option maxHeartbeats 1600000 in
theorem walk (a : Ctl) (A : Option Addr) (c : Nat) (w : World) (hr : RdL fB w A a.wa) (hn : a.wa.length ≤ maxLen) :
    Calls Try.prog 4 #[acV a A c] w fun e w' => e = .returned (.bool true) ∧ Below w.heap.size w w' := by
  have hbx := Blk.new w 24 (acC a A c)
  have hB := (Below.refl w.heap.size w).alloc (Nat.le_refl _) (.cells (acC a A c) 24)
  have hg := hbx.lt
  replace hr := hr.alloc (.cells (acC a A c) 24)
  have hsz : szF a.wa.length 1048576 < 0 ∨ (0 ≤ szF a.wa.length 1048576 ∧ a.wa.length ≤ 1048576) := by
    unfold szF; split <;> omega
  go_enter Try.func4, Try.ntmps4
  go_wp2_with fail
  refine (szActor_any a A c _ hn).mono ?_
  rintro e w1 ⟨rfl, b1⟩
  replace hbx := hbx.below b1 hg
  replace hr := hr.below b1
  replace hB := hB.trans (b1.mono (by simp))
  have hz1 := hB.size
  clear b1
  rcases hsz with hneg | ⟨hpos, hlen⟩
  · go_wp2_with fail
    go_ret
    exact ⟨rfl, hB⟩
  obtain ⟨k0, k1, k2, k3, k4, k5⟩ := box_cells hbx
  go_wp2_with fail
  refine (toActor_any a A c _ hr hlen).mono ?_
  rintro e w2 ⟨A2, c2, rfl, h2, b2⟩
  replace hbx := hbx.below b2 hbx.lt
  replace hr := hr.below b2
  replace hB := hB.trans (b2.mono hz1)
  have hz2 := hB.size
  clear b2 k0 k1 k2 k3 k4 k5
  go_wp2_with fail
  refine (sBoundA_any a A2 c2 _).mono ?_
  rintro e w3 ⟨rfl, b3⟩
  replace hbx := hbx.below b3 hbx.lt
  replace hr := hr.below b3
  replace hB := hB.trans (b3.mono hz2)
  have hz3 := hB.size
  clear b3 h2
  obtain ⟨k0, k1, k2, k3, k4, k5⟩ := box_cells hbx
  go_wp2_with fail
  refine (toActor_any a A c _ hr hlen).mono ?_
  rintro e w4 ⟨A4, c4, rfl, h4, b4⟩
  replace hbx := (hbx.below b4 hbx.lt).alloc (.cells (acC a A4 c4) 27)
  replace hr := (hr.below b4).alloc (.cells (acC a A4 c4) 27)
  replace hB := (hB.trans (b4.mono hz3)).alloc (by have := hB.size; have := b4.size; omega) (.cells (acC a A4 c4) 27)
  replace h4 := h4.alloc (.cells (acC a A4 c4) 27)
  have hx := Blk.new w4 27 (acC a A4 c4)
  have hz4 := hB.size
  have hxl := hx.lt
  clear b4 k0 k1 k2 k3 k4 k5
  go_wp2_with fail
  refine (iBoundA_any a A4 c4 _).mono ?_
  rintro e w5 ⟨rfl, b5⟩
  replace hbx := hbx.below b5 hbx.lt
  replace hx := hx.below b5 hxl
  replace hr := hr.below b5
  replace h4 := h4.below b5
  replace hB := hB.trans (b5.mono hz4)
  have hz5 := hB.size
  clear b5
  generalize boundA a = v
  go_wp2_with fail
  generalize w4.heap.size = g5 at *
  obtain ⟨S, hS⟩ : ∃ S : World → Prop, S = fun x => Blk x w.heap.size 24 (acC a A c) ∧ Blk x g5 27 (acC a A4 c4) := ⟨_, rfl⟩
  have hS1 : ∀ x, S x → Blk x w.heap.size 24 (acC a A c) := fun x h => by rw [hS] at h; exact h.1
  have hS2 : ∀ x, S x → Blk x g5 27 (acC a A4 c4) := fun x h => by rw [hS] at h; exact h.2
  have hS3 : ∀ x, Blk x w.heap.size 24 (acC a A c) → Blk x g5 27 (acC a A4 c4) → S x := fun x h1 h2 => by rw [hS]; exact ⟨h1, h2⟩
  obtain ⟨k0, k1, k2, k3, k4, k5⟩ := held_cells hS1
  obtain ⟨j0, j1, j2, j3, j4, j5⟩ := held_cells hS2
  have HS3 := Lib.hid hS3
  clear hS hS1 hS2 hS3
  refine wp_region_plan S [0, 1] [2, 3, 4] (by kernel_rfl) (by kernel_rfl) (HS3.out _ hbx.drew hx.drew) ?_
  intro hne
  simp only [List.filterMap_cons, List.filterMap_nil, List.getElem?_toArray, List.getElem?_cons_zero, List.getElem?_cons_succ]
  repeat (refine wpEarly_step (fun K hK => ?_); go_simp; refine hK _ ?_; clear hK K)
  refine wpEarly_nil ?_
  clear k0 k1 k2 k3 k4 k5 j0 j1 j2 j3 j4 j5 hne
  refine wpLate_step rfl (fun K hK => ?_)
  go_wp2_with fail
  refine (toActor_any a A c _ hr.drew hlen).mono ?_
  rintro e w6 ⟨A6, c6, rfl, h6, b6⟩
  replace hbx := hbx.drew.below b6 hbx.lt
  replace hx := hx.drew.below b6 hx.lt
  replace hr := hr.drew.below b6
  replace h4 := h4.drew.below b6
  replace hB := hB.drew.trans (b6.mono hz5)
  have hz6 := hB.size
  clear b6
  go_wp2_with fail
  refine ⟨HS3.out _ hbx hx, ?_⟩
  refine wpLate_step rfl (fun K hK => ?_)
  go_wp2_with fail
  refine (eqActor_same a A4 A6 c4 c6 _ h4.rd h6.rd (by omega)).mono ?_
  rintro e w7 ⟨rfl, b7⟩
  replace hbx := hbx.below b7 hbx.lt
  replace hx := hx.below b7 hx.lt
  replace hB := hB.trans (b7.mono hz6)
  clear b7
  go_wp2_with fail
  refine ⟨HS3.out _ hbx hx, ?_⟩
  refine wpLate_step rfl (fun K hK => ?_)
  go_wp2_with fail
  refine ⟨HS3.out _ hbx hx, ?_⟩
  refine wpLate_nil (NoPanic.normal ?_)
  go_wp2_with fail
  go_ret
  exact ⟨rfl, hB⟩

set_option maxRecDepth 100000 in
theorem lifted (os : Os) (started : os.Started) (H : Type) (enc : TypeId × Value → H) :
    ReturnsInHanded {} Try.checked os 4 .any (Rows.fnExactWaitBoundSpec.pre6 enc Try.prog Try.f4 Rows.fnExactWaitBoundRow.domain false) (Rows.fnExactWaitBoundSpec.post enc Try.prog Try.f4 false true false false) := by
  refine returnsInHanded_of_change (C := Try.checked) own started (by kernel_rfl) Try.func4
    (ChangeSpec.witness6 (enc := enc) (C := Try.checked) false ⟨#[], #[.agg #[.int .i64 0, .int .i64 0, .int .i64 0, .int .i64 0, .int .i64 0, .slice none 0 0]], []⟩ 8 (by kernel_rfl) (by kernel_rfl) (by kernel_rfl) (by kernel_rfl)) ?_
  intro W base args ds gs before hval0 hW hcnd _
  have hval : ∀ (j : Nat) t v, Try.f4.params[j]? = some t → args[j]? = some v → Value.okWide Try.prog W .any base t v := hval0
  have hW' := hW
  obtain ⟨p, q, hA0, hV, rfl, hfz, hnd⟩ := hW
  have hA : DataW.TrodAll enc Try.prog W 0 (fun _ => true) true Try.f4.params.toList args.toList ds p := hA0
  rw [Try.params4] at hA hval
  obtain ⟨v0, vs0, d0, ds0, p0, q0, hargs, rfl, rfl, h0, r0⟩ := trodAll_cons hA
  obtain ⟨rfl, rfl, rfl⟩ := trodAll_nil r0
  obtain rfl : args = #[v0] := by cases args; simp_all
  obtain ⟨rfl, rfl⟩ := trodVars_none hV
  have k0 := h0
  have lt0 : ∀ x ∈ p0, x.block < W.heap.size := by obtain ⟨m, hm⟩ := k0; exact DataW.trod_lt m _ _ _ hm
  obtain ⟨cs0, n0, rfl, hcl0, hf0⟩ := open_struct Try.underlying24 (by kernel_rfl) (by kernel_rfl) (hval 0 24 v0 rfl rfl) h0
  obtain ⟨u0_0, y0_0, e0_0, t0_0⟩ := hf0 0 _ rfl
  obtain ⟨x0_0, rfl, w0_0⟩ := open_intF Try.underlying3 t0_0
  obtain ⟨u0_1, y0_1, e0_1, t0_1⟩ := hf0 1 _ rfl
  obtain ⟨x0_1, rfl, w0_1⟩ := open_intF Try.underlying3 t0_1
  obtain ⟨u0_2, y0_2, e0_2, t0_2⟩ := hf0 2 _ rfl
  obtain ⟨x0_2, rfl, w0_2⟩ := open_intF Try.underlying3 t0_2
  obtain ⟨u0_3, y0_3, e0_3, t0_3⟩ := hf0 3 _ rfl
  obtain ⟨x0_3, rfl, w0_3⟩ := open_intF Try.underlying3 t0_3
  obtain ⟨u0_4, y0_4, e0_4, t0_4⟩ := hf0 4 _ rfl
  obtain ⟨x0_4, rfl, w0_4⟩ := open_intF Try.underlying3 t0_4
  obtain ⟨u0_5, y0_5, e0_5, t0_5⟩ := hf0 5 _ rfl
  obtain ⟨A0_5, c0_5, z0_5, rfl, r0_5, l0_5, m0_5⟩ := open_boolsF Try.underlying22 Try.underlying4 (by kernel_rfl) t0_5
  obtain rfl : cs0 = [.int .i64 x0_0, .int .i64 x0_1, .int .i64 x0_2, .int .i64 x0_3, .int .i64 x0_4, .slice A0_5 z0_5.length c0_5] := list_6 hcl0 e0_0 e0_1 e0_2 e0_3 e0_4 e0_5
  clear hA0 hval0
  refine (walk ⟨x0_0, x0_1, x0_2, x0_3, x0_4, z0_5⟩ A0_5 c0_5 W r0_5 (Nat.le_trans l0_5 m0_5)).mono fun e W' ⟨he, bel⟩ => ?_
  subst he
  exact ⟨_, rfl, _, _, _, [], _, [], hW', trodAll_mk1 (shut_bool Try.underlying4 _), (trodAll_cons_mk (Below.trod laidOut (by kernel_rfl) (of_decide_eq_true (by kernel_rfl)) k0 bel lt0) trodAll_mk0), rfl, bel.frame _, fun h => by cases h⟩

theorem over : Rows.fnExactWaitBoundRow.holds Try.pinned (OpenSpec.ofChange Rows.fnExactWaitBoundSpec) :=
  OpenClaim.holds_of_wide 4 Try.f4 rfl rfl rfl rfl rfl rfl rfl ⟨rfl, rfl, rfl, rfl, rfl⟩ rfl rfl rfl rfl rfl (by kernel_rfl) Try.func4 (by kernel_rfl)
    (of_decide_eq_true (by kernel_rfl)) (by unfold Func.isWrapper; first | (rw [if_pos (by decide +kernel)]; kernel_rfl) | (rw [if_neg (by decide +kernel)]; exact ⟨rfl, rfl⟩))
    (fun os started H enc _ => lifted os started H enc)

theorem proved : Rows.FnExactWaitBoundSaid := over
end Go.Proofs.Ytoadkefajobgnaa.FnExactWaitBound
