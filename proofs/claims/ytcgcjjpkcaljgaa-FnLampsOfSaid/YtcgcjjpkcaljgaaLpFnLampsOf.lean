/-
  The statement FnLampsOf: lamps follow each other as they should.
-/
import Derived.Test.YtcgcjjpkcaljgaaLpFn
namespace Go.Proofs.Ytcgcjjpkcaljgaa.FnLampsOf
open Go.RowKit Go.ChangeShapes Go.WideShapes Go.ChangeAt Go.Proofs.Ytcgcjjpkcaljgaa
set_option linter.unusedVariables false

set_option maxHeartbeats 1600000 in
theorem walk (A : Option Addr) (len cap : Nat) (w : World) (h : Bytes w A len) (hc : len ≤ cap) :
    Calls Try.prog 5 #[.slice A len cap] w fun e w' => e = .returned (.bool true) ∧ Below w.heap.size w w' := by
  by_cases hl1 : 1048576 < len
  · go_enter Try.func5, Try.ntmps5
    go_wp2_with fail
    go_ret
    exact ⟨rfl, Below.refl _ _⟩
  go_enter Try.func5, Try.ntmps5
  go_wp2_with fail
  refine (drawLO_any _ A len cap h hc).mono ?_
  rintro e w1 ⟨gs, B, c, rfl, hgl, hr, hB⟩
  obtain ⟨l, hl⟩ : ∃ l, l = lampF gs := ⟨_, rfl⟩
  have Hl := Lib.hid hl
  clear hl h
  go_wp2_with fail
  refine (iLamps_v gs l Hl B c _ hr (by omega)).mono ?_
  rintro e w2 ⟨rfl, v2⟩
  replace hr := hr.below v2
  replace hB := hB.trans (v2.mono hB.size)
  clear v2
  go_wp2_with fail
  refine (sLamps_v gs l Hl B c _ hr (by omega)).mono ?_
  rintro e w3 ⟨rfl, v3⟩
  replace hr := hr.below v3
  replace hB := hB.trans (v3.mono hB.size)
  clear v3
  rcases Nat.eq_zero_or_pos l.length with h0 | h0
  · obtain rfl : l = [] := List.eq_nil_of_length_eq_zero h0
    clear h0
    go_wp2_with fail
    refine (sLamps_v gs [] Hl B c _ hr (by omega)).mono ?_
    rintro e w4 ⟨rfl, v4⟩
    replace hB := hB.trans (v4.mono hB.size)
    clear v4
    go_wp2_with fail
    go_ret
    exact ⟨rfl, hB⟩
  · have hle : Hid (gs.length ≤ 200) := Lib.hid (by
      rcases Nat.lt_or_ge 200 gs.length with h | h
      · rw [Hl.out, lampF_nil.mpr (.inr h)] at h0
        simp at h0
      · exact h)
    obtain ⟨hv, hll, hf, hg⟩ := lampF_good hle.out
    rw [← Hl.out] at hv hll hf hg
    have Hf := Lib.hid hf.symm
    have Hg := Lib.hid hg.symm
    have hl2 : l.length ≤ 1000 := by have := hle.out; omega
    have heq : (((l.length : Nat) : Int) == ((gs.length : Nat) : Int)) = true := by rw [hll]; simp
    have hne : l.toArray.toList.isEmpty = false := by
      cases l with
      | nil => simp at h0
      | cons => rfl
    clear hv hll hf hg
    go_wp2_with fail
    refine (iFbl_v l (-1) Hf _ (by omega)).mono ?_
    rintro e w4 ⟨rfl, v4⟩
    replace hr := hr.below v4
    replace hB := hB.trans (v4.mono hB.size)
    clear v4
    go_wp2_with fail
    refine (iGrn_v l gs Hg _ (by omega)).mono ?_
    rintro e w5 ⟨A5, c5, rfl, y5, v5⟩
    replace hr := hr.below v5
    replace hB := hB.trans (v5.mono hB.size)
    clear v5
    go_wp2_with fail
    refine (equalBools_same gs A5 B c5 c _ y5.rd hr (by omega)).mono ?_
    rintro e w6 ⟨rfl, v6⟩
    replace hB := hB.trans (v6.mono hB.size)
    clear v6 y5
    go_wp2_with fail
    go_ret
    exact ⟨rfl, hB⟩

set_option maxRecDepth 100000 in
theorem lifted (os : Os) (started : os.Started) (H : Type) (enc : TypeId × Value → H) :
    ReturnsInHanded {} Try.checked os 5 .any (Rows.fnLampsOfSpec.pre6 enc Try.prog Try.f5 Rows.fnLampsOfRow.domain false) (Rows.fnLampsOfSpec.post enc Try.prog Try.f5 false true false false) := by
  refine returnsInHanded_of_change (C := Try.checked) own started (by kernel_rfl) Try.func5
    (ChangeSpec.witness6 (enc := enc) (C := Try.checked) false ⟨#[], #[.slice none 0 0], []⟩ 8 (by kernel_rfl) (by kernel_rfl) (by kernel_rfl) (by kernel_rfl)) ?_
  intro W base args ds gs before hval0 hW hcnd _
  have hval : ∀ (j : Nat) t v, Try.f5.params[j]? = some t → args[j]? = some v → Value.okWide Try.prog W .any base t v := hval0
  have hW' := hW
  obtain ⟨p, q, hA0, hV, rfl, hfz, hnd⟩ := hW
  have hA : DataW.TrodAll enc Try.prog W 0 (fun _ => true) true Try.f5.params.toList args.toList ds p := hA0
  rw [Try.params5] at hA hval
  obtain ⟨v0, vs0, d0, ds0, p0, q0, hargs, rfl, rfl, h0, r0⟩ := trodAll_cons hA
  obtain ⟨rfl, rfl, rfl⟩ := trodAll_nil r0
  obtain rfl : args = #[v0] := by cases args; simp_all
  obtain ⟨rfl, rfl⟩ := trodVars_none hV
  have k0 := h0
  have lt0 : ∀ x ∈ p0, x.block < W.heap.size := by obtain ⟨m, hm⟩ := k0; exact DataW.trod_lt m _ _ _ hm
  obtain ⟨a0, len0, cap0, rfl⟩ := okWide_slice Try.underlying22 (hval 0 22 v0 rfl rfl)
  obtain ⟨w0, hc0⟩ := open_bytes Try.underlying22 Try.underlying5 (by kernel_rfl) h0
  clear hA0 hval0
  refine (walk a0 len0 cap0 W w0 hc0).mono fun e W' ⟨he, bel⟩ => ?_
  subst he
  exact ⟨_, rfl, _, _, _, [], _, [], hW', trodAll_mk1 (shut_bool Try.underlying4 _), (trodAll_cons_mk (Below.trod laidOut (by kernel_rfl) (of_decide_eq_true (by kernel_rfl)) k0 bel lt0) trodAll_mk0), rfl, bel.frame _, fun h => by cases h⟩

theorem over : Rows.fnLampsOfRow.holds Try.pinned (OpenSpec.ofChange Rows.fnLampsOfSpec) :=
  OpenClaim.holds_of_wide 5 Try.f5 rfl rfl rfl rfl rfl rfl rfl ⟨rfl, rfl, rfl, rfl, rfl⟩ rfl rfl rfl rfl rfl (by kernel_rfl) Try.func5 (by kernel_rfl)
    (of_decide_eq_true (by kernel_rfl)) (by unfold Func.isWrapper; first | (rw [if_pos (by decide +kernel)]; kernel_rfl) | (rw [if_neg (by decide +kernel)]; exact ⟨rfl, rfl⟩))
    (fun os started H enc _ => lifted os started H enc)

theorem proved : Rows.FnLampsOfSaid := over
end Go.Proofs.Ytcgcjjpkcaljgaa.FnLampsOf
