/-
  The statement FnFirstBadLamp: beginnings of good texts are good.
-/
import Derived.Test.YtcgcjjpkcaljgaaLpFn
namespace Go.Proofs.Ytcgcjjpkcaljgaa.FnFirstBadLamp
open Go.RowKit Go.ChangeShapes Go.WideShapes Go.ChangeAt Go.Proofs.Ytcgcjjpkcaljgaa
set_option linter.unusedVariables false

set_option maxHeartbeats 1600000 in
theorem walk (A : Option Addr) (len cap : Nat) (w : World) (h : Bytes w A len) (hc : len ≤ cap) :
    Calls Try.prog 4 #[.slice A len cap] w fun e w' => e = .returned (.bool true) ∧ Below w.heap.size w w' := by
  by_cases hl1 : 1048576 < len
  · go_enter Try.func4, Try.ntmps4
    go_wp2_with fail
    go_ret
    exact ⟨rfl, Below.refl _ _⟩
  go_enter Try.func4, Try.ntmps4
  go_wp2_with fail
  refine (drawFB_any _ A len cap h hc).mono ?_
  rintro e w1 ⟨l, rfl, hl, hB⟩
  have hl20 : l.length ≤ 20 := by omega
  obtain ⟨n, hn⟩ : ∃ n, n = fblF l := ⟨_, rfl⟩
  have Hn := Lib.hid hn
  have hbd := fblF_bd l
  rw [← hn] at hbd
  clear hl h hn
  go_wp2_with fail
  refine (iFbl_v l n Hn _ (by omega)).mono ?_
  rintro e w2 ⟨rfl, v2⟩
  replace hB := hB.trans (v2.mono hB.size)
  clear v2
  go_wp2_with fail
  refine (sFbl_v l n Hn _ (by omega)).mono ?_
  rintro e w3 ⟨rfl, v3⟩
  replace hB := hB.trans (v3.mono hB.size)
  clear v3
  by_cases h1 : n < 1
  · go_wp2_with fail
    refine (sFbl_v l n Hn _ (by omega)).mono ?_
    rintro e w4 ⟨rfl, v4⟩
    replace hB := hB.trans (v4.mono hB.size)
    clear v4
    go_wp2_with fail
    go_ret
    exact ⟨rfl, hB⟩
  · obtain ⟨k, rfl⟩ := Int.eq_ofNat_of_zero_le (show 0 ≤ n by omega)
    obtain ⟨f1, f2, -, hkl, -⟩ := fbl_take Hn.out.symm
    have F1 := Lib.hid f1.symm
    have F2 := Lib.hid f2.symm
    have e1 := take_arr l k
    have e2 := take_arr l (k + 1)
    clear f1 f2
    have hk1 : ¬ ((l.length : Nat) : Int) ≤ (k : Int) := by omega
    have hsz : (⟨l.toArray⟩ : ByteArray).size = l.length := rfl
    have hkn : (k : Int) + 1 ≤ (l.length : Int) := by omega
    go_wp2_with fail
    refine (iFbl_v (l.take k) (-1) F1 _ (by simp; omega)).mono ?_
    rintro e w4 ⟨rfl, v4⟩
    replace hB := hB.trans (v4.mono hB.size)
    clear v4
    go_wp2_with fail
    refine (iFbl_v (l.take (k + 1)) (k : Int) F2 _ (by simp; omega)).mono ?_
    rintro e w5 ⟨rfl, v5⟩
    replace hB := hB.trans (v5.mono hB.size)
    clear v5
    go_wp2_with fail
    go_ret
    exact ⟨rfl, hB⟩

set_option maxRecDepth 100000 in
theorem lifted (os : Os) (started : os.Started) (H : Type) (enc : TypeId × Value → H) :
    ReturnsInHanded {} Try.checked os 4 .any (Rows.fnFirstBadLampSpec.pre6 enc Try.prog Try.f4 Rows.fnFirstBadLampRow.domain false) (Rows.fnFirstBadLampSpec.post enc Try.prog Try.f4 false true false false) := by
  refine returnsInHanded_of_change (C := Try.checked) own started (by kernel_rfl) Try.func4
    (ChangeSpec.witness6 (enc := enc) (C := Try.checked) false ⟨#[], #[.slice none 0 0], []⟩ 8 (by kernel_rfl) (by kernel_rfl) (by kernel_rfl) (by kernel_rfl)) ?_
  intro W base args ds gs before hval0 hW hcnd _
  have hval : ∀ (j : Nat) t v, Try.f4.params[j]? = some t → args[j]? = some v → Value.okWide Try.prog W .any base t v := hval0
  have hW' := hW
  obtain ⟨p, q, hA0, hV, rfl, hfz, hnd⟩ := hW
  have hA : DataW.TrodAll enc Try.prog W 0 (fun _ => true) true Try.f4.params.toList args.toList ds p := hA0
  rw [Try.params4] at hA hval
  obtain ⟨v0, vs0, d0, ds0, p0, q0, hargs, rfl, rfl, h0, r0⟩ := trodAll_cons hA
  obtain ⟨rfl, rfl, rfl⟩ := trodAll_nil r0
  obtain rfl : args = #[v0] := by cases args; simp_all
  obtain ⟨rfl, rfl⟩ := trodVars_none hV
  have k0 := h0
  have lt0 : ∀ x ∈ p0, x.block < W.heap.size := by obtain ⟨m, hm⟩ := k0; exact DataW.trod_lt m _ _ _ hm
  obtain ⟨a0, len0, cap0, rfl⟩ := okWide_slice Try.underlying22 (hval 0 22 v0 rfl rfl)
  obtain ⟨w0, hc0⟩ := open_bytes Try.underlying22 Try.underlying5 (by kernel_rfl) h0
  clear hA0 hval0
  refine (walk a0 len0 cap0 W w0 hc0).mono fun e W' ⟨he, bel⟩ => ?_
  subst he
  exact ⟨_, rfl, _, _, _, [], _, [], hW', trodAll_mk1 (shut_bool Try.underlying4 _), (trodAll_cons_mk (Below.trod laidOut (by kernel_rfl) (of_decide_eq_true (by kernel_rfl)) k0 bel lt0) trodAll_mk0), rfl, bel.frame _, fun h => by cases h⟩

theorem over : Rows.fnFirstBadLampRow.holds Try.pinned (OpenSpec.ofChange Rows.fnFirstBadLampSpec) :=
  OpenClaim.holds_of_wide 4 Try.f4 rfl rfl rfl rfl rfl rfl rfl ⟨rfl, rfl, rfl, rfl, rfl⟩ rfl rfl rfl rfl rfl (by kernel_rfl) Try.func4 (by kernel_rfl)
    (of_decide_eq_true (by kernel_rfl)) (by unfold Func.isWrapper; first | (rw [if_pos (by decide +kernel)]; kernel_rfl) | (rw [if_neg (by decide +kernel)]; exact ⟨rfl, rfl⟩))
    (fun os started H enc _ => lifted os started H enc)

theorem proved : Rows.FnFirstBadLampSaid := over
end Go.Proofs.Ytcgcjjpkcaljgaa.FnFirstBadLamp
