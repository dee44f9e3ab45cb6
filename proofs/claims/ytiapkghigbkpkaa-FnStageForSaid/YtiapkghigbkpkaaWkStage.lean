/-
  The statement FnStageFor: stages have room for persons.
-/
import Derived.Test.YtiapkghigbkpkaaOpen
import Derived.Test.YtiapkghigbkpkaaWkDraw
namespace Go.Proofs.Ytiapkghigbkpkaa.FnStageFor
open Go.RowKit Go.ChangeShapes Go.WideShapes Go.ChangeAt Go.Proofs.Ytiapkghigbkpkaa
set_option linter.unusedVariables false

theorem walk (A : Option Addr) (len cap : Nat) (w : World) (h : Bytes w A len) (hc : len ≤ cap) :
    Calls Try.prog 8 #[.slice A len cap] w fun e w' => e = .returned (.bool true) ∧ Below w.heap.size w w' := by
  by_cases hl : 1048576 < len
  · go_enter Try.func8, Try.ntmps8
    go_wp2_with fail
    go_ret
    exact ⟨rfl, Below.refl _ _⟩
  go_enter Try.func8, Try.ntmps8
  go_wp2_with fail
  refine (dStage_any _ A len cap h hc).mono ?_
  rintro e w1 ⟨l, s, k, rfl, hb1⟩
  obtain ⟨g0, g1, g2⟩ := box_cells w1 l s k
  have fin : ∀ y : Grow (w1.alloc (.cells (cells3 l s k) 25)), Below w.heap.size w y.x := fun y => hb1.trans (y.out.mono hb1.size)
  have Fin := Lib.hid fin
  clear fin hb1
  by_cases hv : validC l s k = true
  · obtain ⟨h1, h2, h3, h4, h5, h6⟩ := validC_bd hv
    obtain ⟨f1, f2⟩ := flash_bd h1 h2 h3
    rcases (show 40 < k + flash l s ∨ (5 < k + flash l s ∧ k + flash l s ≤ 40) ∨ k + flash l s ≤ 5 by omega) with hq | ⟨hq, hq2⟩ | hq
    · have hS : stageF l s k = 0 := by simp only [stageF, hv, if_true]; omega
      go_wp2_with fail
      refine (iStage_v _ _ _ _ _ hS).mono ?_; rintro e w' ⟨rfl, hb⟩; obtain ⟨y1, rfl⟩ := Grow.first hb; clear hb
      go_wp2_with fail
      refine (sStage_v _ _ _ _ _ hS).mono ?_; rintro e w' ⟨rfl, hb⟩; obtain ⟨y2, rfl⟩ := Grow.step hb; clear hb
      clear hS
      go_wp2_with fail
      refine wp_region_grow _ (by kernel_rfl) (by kernel_rfl) y2.h ?_
      repeat (go_big_quiet_step ((go_at_call 13; exact grow_of (iFlash_yes _ _ _ _ hv))))
      refine wpQuiet_nil ?_
      rintro _ ⟨y3, rfl⟩
      go_wp2_with fail
      go_ret
      exact ⟨rfl, Fin.out _⟩
    · have hS : stageF l s k = k + flash l s := by simp only [stageF, hv, if_true]; omega
      go_wp2_with fail
      refine (iStage_v _ _ _ _ _ hS).mono ?_; rintro e w' ⟨rfl, hb⟩; obtain ⟨y1, rfl⟩ := Grow.first hb; clear hb
      go_wp2_with fail
      refine (sStage_v _ _ _ _ _ hS).mono ?_; rintro e w' ⟨rfl, hb⟩; obtain ⟨y2, rfl⟩ := Grow.step hb; clear hb
      clear hS
      go_wp2_with fail
      refine wp_region_grow _ (by kernel_rfl) (by kernel_rfl) y2.h ?_
      repeat (go_big_quiet_step ((go_at_call 13; exact grow_of (iFlash_yes _ _ _ _ hv))))
      refine wpQuiet_nil ?_
      rintro _ ⟨y3, rfl⟩
      go_wp2_with fail
      go_ret
      exact ⟨rfl, Fin.out _⟩
    · have hS : stageF l s k = 5 := by simp only [stageF, hv, if_true]; omega
      go_wp2_with fail
      refine (iStage_v _ _ _ _ _ hS).mono ?_; rintro e w' ⟨rfl, hb⟩; obtain ⟨y1, rfl⟩ := Grow.first hb; clear hb
      go_wp2_with fail
      refine (sStage_v _ _ _ _ _ hS).mono ?_; rintro e w' ⟨rfl, hb⟩; obtain ⟨y2, rfl⟩ := Grow.step hb; clear hb
      clear hS
      go_wp2_with fail
      refine wp_region_grow _ (by kernel_rfl) (by kernel_rfl) y2.h ?_
      repeat (go_big_quiet_step ((go_at_call 13; exact grow_of (iFlash_yes _ _ _ _ hv))))
      refine wpQuiet_nil ?_
      rintro _ ⟨y3, rfl⟩
      go_wp2_with fail
      go_ret
      exact ⟨rfl, Fin.out _⟩
  · have hv : validC l s k = false := by simpa using hv
    have hS : stageF l s k = -1 := by simp [stageF, hv]
    go_wp2_with fail
    refine (iStage_v _ _ _ _ _ hS).mono ?_; rintro e w' ⟨rfl, hb⟩; obtain ⟨y1, rfl⟩ := Grow.first hb; clear hb
    go_wp2_with fail
    refine (sStage_v _ _ _ _ _ hS).mono ?_; rintro e w' ⟨rfl, hb⟩; obtain ⟨y2, rfl⟩ := Grow.step hb; clear hb
    go_wp2_with fail
    refine (sStage_v _ _ _ _ _ hS).mono ?_; rintro e w' ⟨rfl, hb⟩; obtain ⟨y3, rfl⟩ := Grow.step hb; clear hb
    go_wp2_with fail
    go_ret
    exact ⟨rfl, Fin.out _⟩

set_option maxRecDepth 100000 in
theorem lifted (os : Os) (started : os.Started) (H : Type) (enc : TypeId × Value → H) :
    ReturnsInHanded {} Try.checked os 8 .any (Rows.fnStageForSpec.pre6 enc Try.prog Try.f8 Rows.fnStageForRow.domain false) (Rows.fnStageForSpec.post enc Try.prog Try.f8 false true false false) := by
  refine returnsInHanded_of_change (C := Try.checked) own started (by kernel_rfl) Try.func8
    (ChangeSpec.witness6 (enc := enc) (C := Try.checked) false ⟨#[], #[.slice none 0 0], []⟩ 8 (by kernel_rfl) (by kernel_rfl) (by kernel_rfl) (by kernel_rfl)) ?_
  intro W base args ds gs before hval0 hW hcnd _
  have hval : ∀ (j : Nat) t v, Try.f8.params[j]? = some t → args[j]? = some v → Value.okWide Try.prog W .any base t v := hval0
  have hW' := hW
  obtain ⟨p, q, hA0, hV, rfl, hfz, hnd⟩ := hW
  have hA : DataW.TrodAll enc Try.prog W 0 (fun _ => true) true Try.f8.params.toList args.toList ds p := hA0
  rw [Try.params8] at hA hval
  obtain ⟨v0, vs0, d0, ds0, p0, q0, hargs, rfl, rfl, h0, r0⟩ := trodAll_cons hA
  obtain ⟨rfl, rfl, rfl⟩ := trodAll_nil r0
  obtain rfl : args = #[v0] := by cases args; simp_all
  obtain ⟨rfl, rfl⟩ := trodVars_none hV
  have k0 := h0
  have lt0 : ∀ x ∈ p0, x.block < W.heap.size := by obtain ⟨m, hm⟩ := k0; exact DataW.trod_lt m _ _ _ hm
  obtain ⟨a0, len0, cap0, rfl⟩ := okWide_slice Try.underlying30 (hval 0 30 v0 rfl rfl)
  obtain ⟨w0, hc0⟩ := open_bytes Try.underlying30 Try.underlying5 (by kernel_rfl) h0
  clear hA0 hval0
  refine (walk a0 len0 cap0 W w0 hc0).mono fun e W' ⟨he, bel⟩ => ?_
  subst he
  exact ⟨_, rfl, _, _, _, [], _, [], hW', trodAll_mk1 (shut_bool Try.underlying4 _), (trodAll_cons_mk (Below.trod laidOut (by kernel_rfl) (of_decide_eq_true (by kernel_rfl)) k0 bel lt0) trodAll_mk0), rfl, bel.frame _, fun h => by cases h⟩

theorem over : Rows.fnStageForRow.holds Try.pinned (OpenSpec.ofChange Rows.fnStageForSpec) :=
  OpenClaim.holds_of_wide 8 Try.f8 rfl rfl rfl rfl rfl rfl rfl ⟨rfl, rfl, rfl, rfl, rfl⟩ rfl rfl rfl rfl rfl (by kernel_rfl) Try.func8 (by kernel_rfl)
    (of_decide_eq_true (by kernel_rfl)) (by unfold Func.isWrapper; first | (rw [if_pos (by decide +kernel)]; kernel_rfl) | (rw [if_neg (by decide +kernel)]; exact ⟨rfl, rfl⟩))
    (fun os started H enc _ => lifted os started H enc)

theorem proved : Rows.FnStageForSaid := over
end Go.Proofs.Ytiapkghigbkpkaa.FnStageFor
