/-
  The statement FnExactFirstFault: the program's function returns what the reference's returns.
-/
import Derived.Test.YtcckipckgnkieaaOpenSS
import Derived.Test.YtcckipckgnkieaaPlFault3
namespace Go.Proofs.Ytcckipckgnkieaa.FnExactFirstFault
open Go.RowKit Go.ChangeShapes Go.WideShapes Go.ChangeAt Go.Proofs.Ytcckipckgnkieaa
set_option linter.unusedVariables false

set_option maxHeartbeats 6400000 in
theorem walk (T : Option Addr) (c : Nat) (t : List (List Int)) (C : Option Addr) (d : Nat) (h : List (List Int)) (w : World) (hr0 : RdSS fI w T t) (hl0 : ∀ k (h : k < t.length), t[k].length ≤ maxLen) (hm0 : t.length ≤ maxLen) (hr1 : RdSS fI w C h) (hl1 : ∀ k (hk : k < h.length), h[k].length ≤ maxLen) (hm1 : h.length ≤ maxLen) :
    Calls Try.prog 6 #[.slice T t.length c, .slice C h.length d] w fun e w' => e = .returned (.bool true) ∧ Below w.heap.size w w' := by
  have hB := Below.refl w.heap.size w
  go_enter Try.func6, Try.ntmps6
  go_wp2_with fail
  refine (szIntSS_any t T c 1048576 _ (hr0.below hB) hm0 hl0 (by omega) (by omega)).mono ?_
  rintro e w1 ⟨⟨u, rfl, hu⟩, v1⟩
  replace hB := hB.trans (v1.mono hB.size)
  clear v1
  rcases hu with rfl | ⟨hu0, hu1⟩
  · go_wp2_with fail
    go_ret
    exact ⟨rfl, hB⟩
  have hule : u ≤ 1048576 := by omega
  have htl : t.length ≤ 1048576 := by omega
  have htt : tot t ≤ 1048576 := by omega
  have Hu1 := Lib.hid hu1
  clear hu1
  go_wp2_with fail
  refine (szIntSS_any h C d u _ (hr1.below hB) hm1 hl1 hu0 hule).mono ?_
  rintro e w2 ⟨⟨u2, rfl, hu2⟩, v2⟩
  replace hB := hB.trans (v2.mono hB.size)
  clear v2
  rcases hu2 with rfl | ⟨hu20, hu21⟩
  · go_wp2_with fail
    go_ret
    exact ⟨rfl, hB⟩
  have hhl : h.length ≤ 1048576 := by omega
  have hht : tot h ≤ 1048576 := by omega
  have Hu2 := Lib.hid hu21
  clear hu21
  have rt : ∀ k (hk : k < t.length), t[k].length ≤ 1048576 := fun k hk => by have := tot_mem t hk; omega
  have rt2 : ∀ k (hk : k < t.length), t[k].length ≤ 2000000 := fun k hk => by have := rt k hk; omega
  have gt : ∀ k, k < t.length → (gm t k).length ≤ 1000000000 := fun k hk => by have := rt k hk; rw [gm_at hk] at this; omega
  have rh : ∀ k (hk : k < h.length), h[k].length ≤ 1048576 := fun k hk => by have := tot_mem h hk; omega
  have rh2 : ∀ k (hk : k < h.length), h[k].length ≤ 2000000 := fun k hk => by have := rh k hk; omega
  have gh : ∀ k, k < h.length → (gm h k).length ≤ 1000000000 := fun k hk => by have := rh k hk; rw [gm_at hk] at this; omega
  have hnt : t.length ≤ 1000000000 := by omega
  have hnh : h.length ≤ 1000000000 := by omega
  obtain ⟨v, hv⟩ : ∃ v, v = faultF t h := ⟨_, rfl⟩
  have Hv := Lib.hid hv
  clear hv
  go_wp2_with fail
  refine (toIntSS_any t T c _ (hr0.below hB) htl rt).mono ?_
  rintro e w3 ⟨C1, d1, rfl, z1, v3⟩
  have lz1 := hB.size
  replace hB := hB.trans (v3.mono hB.size)
  clear v3
  have hz1 := Nat.le_refl w3.heap.size
  go_wp2_with fail
  refine (toIntSS_any h C d _ (hr1.below hB) hhl rh).mono ?_
  rintro e w4 ⟨C2, d2, rfl, z2, v4⟩
  have lz2 := hB.size
  replace z1 := z1.below v4
  replace hz1 := Nat.le_trans hz1 v4.size
  replace hB := hB.trans (v4.mono hB.size)
  clear v4
  have hz2 := Nat.le_refl w4.heap.size
  go_wp2_with fail
  refine (sFault_v t h v Hv C1 C2 d1 d2 _ z1.rd z2.rd hnt gt hnh gh).mono ?_
  rintro e w5 ⟨rfl, v5⟩
  replace z1 := z1.below v5
  replace z2 := z2.below v5
  replace hz1 := Nat.le_trans hz1 v5.size
  replace hz2 := Nat.le_trans hz2 v5.size
  replace hB := hB.trans (v5.mono hB.size)
  clear v5
  clear z1 z2
  go_wp2_with fail
  refine (toIntSS_any t T c _ (hr0.below hB) htl rt).mono ?_
  rintro e w6 ⟨Cx, dx, rfl, zx, v6⟩
  have lzx := hB.size
  replace hB := hB.trans (v6.mono hB.size)
  clear v6
  have hzx := Nat.le_refl w6.heap.size
  go_wp2_with fail
  refine (toIntSS_any h C d _ (hr1.below hB) hhl rh).mono ?_
  rintro e w7 ⟨Cy, dy, rfl, zy, v7⟩
  have lzy := hB.size
  replace zx := zx.below v7
  replace hzx := Nat.le_trans hzx v7.size
  replace hB := hB.trans (v7.mono hB.size)
  clear v7
  have hzy := Nat.le_refl w7.heap.size
  go_wp2_with fail
  refine (iFault_v t h v Hv Cx Cy dx dy _ zx.rd zy.rd hnt gt hnh gh).mono ?_
  rintro e w8 ⟨rfl, v8⟩
  replace zx := zx.below v8
  replace zy := zy.below v8
  replace hzx := Nat.le_trans hzx v8.size
  replace hzy := Nat.le_trans hzy v8.size
  replace hB := hB.trans (v8.mono hB.size)
  clear v8
  go_wp2_with fail
  refine (toIntSS_any t T c _ (hr0.below hB) htl rt).mono ?_
  rintro e w9 ⟨C3, d3, rfl, z3, v9⟩
  have lz3 := hB.size
  replace zx := zx.below v9
  replace zy := zy.below v9
  replace hzx := Nat.le_trans hzx v9.size
  replace hzy := Nat.le_trans hzy v9.size
  replace hB := hB.trans (v9.mono hB.size)
  clear v9
  have hz3 := Nat.le_refl w9.heap.size
  go_wp2_with fail
  refine (eqIntSS_same t Cx C3 dx d3 _ zx.rd z3.rd (by omega) rt2).mono ?_
  rintro e w10 ⟨rfl, v10⟩
  replace zx := zx.below v10
  replace zy := zy.below v10
  replace z3 := z3.below v10
  replace hzx := Nat.le_trans hzx v10.size
  replace hzy := Nat.le_trans hzy v10.size
  replace hz3 := Nat.le_trans hz3 v10.size
  replace hB := hB.trans (v10.mono hB.size)
  clear v10
  go_wp2_with fail
  refine (toIntSS_any h C d _ (hr1.below hB) hhl rh).mono ?_
  rintro e w11 ⟨C4, d4, rfl, z4, v11⟩
  have lz4 := hB.size
  replace zx := zx.below v11
  replace zy := zy.below v11
  replace z3 := z3.below v11
  replace hzx := Nat.le_trans hzx v11.size
  replace hzy := Nat.le_trans hzy v11.size
  replace hz3 := Nat.le_trans hz3 v11.size
  replace hB := hB.trans (v11.mono hB.size)
  clear v11
  have hz4 := Nat.le_refl w11.heap.size
  go_wp2_with fail
  refine (eqIntSS_same h Cy C4 dy d4 _ zy.rd z4.rd (by omega) rh2).mono ?_
  rintro e w12 ⟨rfl, v12⟩
  replace zx := zx.below v12
  replace zy := zy.below v12
  replace z3 := z3.below v12
  replace z4 := z4.below v12
  replace hzx := Nat.le_trans hzx v12.size
  replace hzy := Nat.le_trans hzy v12.size
  replace hz3 := Nat.le_trans hz3 v12.size
  replace hz4 := Nat.le_trans hz4 v12.size
  replace hB := hB.trans (v12.mono hB.size)
  clear v12
  go_wp2_with fail
  go_ret
  exact ⟨rfl, hB⟩

set_option maxRecDepth 100000 in
theorem lifted (os : Os) (started : os.Started) (H : Type) (enc : TypeId × Value → H) :
    ReturnsInHanded {} Try.checked os 6 .any (Rows.fnExactFirstFaultSpec.pre6 enc Try.prog Try.f6 Rows.fnExactFirstFaultRow.domain false) (Rows.fnExactFirstFaultSpec.post enc Try.prog Try.f6 false true false false) := by
  refine returnsInHanded_of_change (C := Try.checked) own started (by kernel_rfl) Try.func6
    (ChangeSpec.witness6 (enc := enc) (C := Try.checked) false ⟨#[], #[.slice none 0 0, .slice none 0 0], []⟩ 8 (by kernel_rfl) (by kernel_rfl) (by kernel_rfl) (by kernel_rfl)) ?_
  intro W base args ds gs before hval0 hW hcnd _
  have hval : ∀ (j : Nat) t v, Try.f6.params[j]? = some t → args[j]? = some v → Value.okWide Try.prog W .any base t v := hval0
  have hW' := hW
  obtain ⟨p, q, hA0, hV, rfl, hfz, hnd⟩ := hW
  have hA : DataW.TrodAll enc Try.prog W 0 (fun _ => true) true Try.f6.params.toList args.toList ds p := hA0
  rw [Try.params6] at hA hval
  obtain ⟨v0, vs0, d0, ds0, p0, q0, hargs, rfl, rfl, h0, r0⟩ := trodAll_cons hA
  obtain ⟨v1, vs1, d1, ds1, p1, q1, rfl, rfl, rfl, h1, r1⟩ := trodAll_cons r0
  obtain ⟨rfl, rfl, rfl⟩ := trodAll_nil r1
  obtain rfl : args = #[v0, v1] := by cases args; simp_all
  obtain ⟨rfl, rfl⟩ := trodVars_none hV
  have k0 := h0
  have lt0 : ∀ x ∈ p0, x.block < W.heap.size := by obtain ⟨m, hm⟩ := k0; exact DataW.trod_lt m _ _ _ hm
  obtain ⟨a0, len0, cap0, rfl⟩ := okWide_slice Try.underlying23 (hval 0 23 v0 rfl rfl)
  obtain ⟨z0, rfl, w0, l0, hc0, wf0⟩ := open_intssAt Try.underlying23 Try.underlying32 Try.underlying3 (by kernel_rfl) (by kernel_rfl) h0
  have k1 := h1
  have lt1 : ∀ x ∈ p1, x.block < W.heap.size := by obtain ⟨m, hm⟩ := k1; exact DataW.trod_lt m _ _ _ hm
  obtain ⟨a1, len1, cap1, rfl⟩ := okWide_slice Try.underlying23 (hval 1 23 v1 rfl rfl)
  obtain ⟨z1, rfl, w1, l1, hc1, wf1⟩ := open_intssAt Try.underlying23 Try.underlying32 Try.underlying3 (by kernel_rfl) (by kernel_rfl) h1
  clear hA0 hval0
  refine (walk a0 cap0 z0 a1 cap1 z1 W w0 l0 (Nat.le_trans hc0 wf0) w1 l1 (Nat.le_trans hc1 wf1)).mono fun e W' ⟨he, bel⟩ => ?_
  subst he
  exact ⟨_, rfl, _, _, _, [], _, [], hW', trodAll_mk1 (shut_bool Try.underlying4 _), (trodAll_cons_mk (Below.trod laidOut (by kernel_rfl) (of_decide_eq_true (by kernel_rfl)) k0 bel lt0) (trodAll_cons_mk (Below.trod laidOut (by kernel_rfl) (of_decide_eq_true (by kernel_rfl)) k1 bel lt1) trodAll_mk0)), rfl, bel.frame _, fun h => by cases h⟩

theorem over : Rows.fnExactFirstFaultRow.holds Try.pinned (OpenSpec.ofChange Rows.fnExactFirstFaultSpec) :=
  OpenClaim.holds_of_wide 6 Try.f6 rfl rfl rfl rfl rfl rfl rfl ⟨rfl, rfl, rfl, rfl, rfl⟩ rfl rfl rfl rfl rfl (by kernel_rfl) Try.func6 (by kernel_rfl)
    (of_decide_eq_true (by kernel_rfl)) (by unfold Func.isWrapper; first | (rw [if_pos (by decide +kernel)]; kernel_rfl) | (rw [if_neg (by decide +kernel)]; exact ⟨rfl, rfl⟩))
    (fun os started H enc _ => lifted os started H enc)

theorem proved : Rows.FnExactFirstFaultSaid := over
end Go.Proofs.Ytcckipckgnkieaa.FnExactFirstFault
