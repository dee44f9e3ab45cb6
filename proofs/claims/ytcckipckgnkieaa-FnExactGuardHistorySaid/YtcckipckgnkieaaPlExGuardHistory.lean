/-
  The statement FnExactGuardHistory: the program's function returns what the reference's returns.
-/
import Derived.Test.YtcckipckgnkieaaOpenSS
import Derived.Test.YtcckipckgnkieaaPlGuard2
namespace Go.Proofs.Ytcckipckgnkieaa.FnExactGuardHistory
open Go.RowKit Go.ChangeShapes Go.WideShapes Go.ChangeAt Go.Proofs.Ytcckipckgnkieaa
set_option linter.unusedVariables false

set_option maxHeartbeats 6400000 in
theorem walk (T : Option Addr) (c : Nat) (t : List (List Int)) (C : Option Addr) (d : Nat) (h : List (List Int)) (w : World) (hr0 : RdSS fI w T t) (hl0 : ∀ k (h : k < t.length), t[k].length ≤ maxLen) (hm0 : t.length ≤ maxLen) (hr1 : RdSS fI w C h) (hl1 : ∀ k (hk : k < h.length), h[k].length ≤ maxLen) (hm1 : h.length ≤ maxLen) :
    Calls Try.prog 7 #[.slice T t.length c, .slice C h.length d] w fun e w' => e = .returned (.bool true) ∧ Below w.heap.size w w' := by
  have hB := Below.refl w.heap.size w
  go_enter Try.func7, Try.ntmps7
  go_wp2_with fail
  refine (szIntSS_any t T c 1048576 _ (hr0.below hB) hm0 hl0 (by omega) (by omega)).mono ?_
  rintro e w1 ⟨⟨u, rfl, hu⟩, v1⟩
  replace hB := hB.trans (v1.mono hB.size)
  clear v1
  rcases hu with rfl | ⟨hu0, hu1⟩
  · go_wp2_with fail
    go_ret
    exact ⟨rfl, hB⟩
  have hule : u ≤ 1048576 := by omega
  have htl : t.length ≤ 1048576 := by omega
  have htt : tot t ≤ 1048576 := by omega
  have Hu1 := Lib.hid hu1
  clear hu1
  go_wp2_with fail
  refine (szIntSS_any h C d u _ (hr1.below hB) hm1 hl1 hu0 hule).mono ?_
  rintro e w2 ⟨⟨u2, rfl, hu2⟩, v2⟩
  replace hB := hB.trans (v2.mono hB.size)
  clear v2
  rcases hu2 with rfl | ⟨hu20, hu21⟩
  · go_wp2_with fail
    go_ret
    exact ⟨rfl, hB⟩
  have hhl : h.length ≤ 1048576 := by omega
  have hht : tot h ≤ 1048576 := by omega
  have Hu2 := Lib.hid hu21
  clear hu21
  have rt : ∀ k (hk : k < t.length), t[k].length ≤ 1048576 := fun k hk => by have := tot_mem t hk; omega
  have rt2 : ∀ k (hk : k < t.length), t[k].length ≤ 2000000 := fun k hk => by have := rt k hk; omega
  have gt : ∀ k, k < t.length → (gm t k).length ≤ 1000000000 := fun k hk => by have := rt k hk; rw [gm_at hk] at this; omega
  have rh : ∀ k (hk : k < h.length), h[k].length ≤ 1048576 := fun k hk => by have := tot_mem h hk; omega
  have rh2 : ∀ k (hk : k < h.length), h[k].length ≤ 2000000 := fun k hk => by have := rh k hk; omega
  have gh : ∀ k, k < h.length → (gm h k).length ≤ 1000000000 := fun k hk => by have := rh k hk; rw [gm_at hk] at this; omega
  have hnt : t.length ≤ 1000000000 := by omega
  have hnh : h.length ≤ 1000000000 := by omega
  obtain ⟨r, hr⟩ : ∃ r, r = guardF t h := ⟨_, rfl⟩
  have Hr := Lib.hid hr
  have hrl := (guard_le t h).1
  have hrt := guard_tot t h
  rw [← hr] at hrl hrt
  have rr : ∀ k (hk : k < r.length), r[k].length ≤ 2000000 := fun k hk => by have := tot_mem r hk; omega
  have rh3 : ∀ k, k < h.length → (gm h k).length ≤ 2000000 := fun k hk => by have := rh k hk; rw [gm_at hk] at this; omega
  clear hr
  go_wp2_with fail
  refine (toIntSS_any t T c _ (hr0.below hB) htl rt).mono ?_
  rintro e w3 ⟨C1, d1, rfl, z1, v3⟩
  have lz1 := hB.size
  replace hB := hB.trans (v3.mono hB.size)
  clear v3
  have hz1 := Nat.le_refl w3.heap.size
  go_wp2_with fail
  refine (toIntSS_any h C d _ (hr1.below hB) hhl rh).mono ?_
  rintro e w4 ⟨C2, d2, rfl, z2, v4⟩
  have lz2 := hB.size
  have lz1z2 : w3.heap.size ≤ w3.heap.size := hz1
  replace z1 := z1.below v4
  replace hz1 := Nat.le_trans hz1 v4.size
  replace hB := hB.trans (v4.mono hB.size)
  clear v4
  have hz2 := Nat.le_refl w4.heap.size
  go_wp2_with fail
  refine (sGuard_v t h r Hr C1 C2 d1 d2 _ z1.rd z2.rd hnt gt (by omega) rh3).mono ?_
  rintro e w5 ⟨Cw, dw, rfl, zw, v5⟩
  have lzw := hB.size
  have lz1zw : w3.heap.size ≤ w4.heap.size := hz1
  have lz2zw : w4.heap.size ≤ w4.heap.size := hz2
  replace z1 := z1.below v5
  replace z2 := z2.below v5
  replace hz1 := Nat.le_trans hz1 v5.size
  replace hz2 := Nat.le_trans hz2 v5.size
  replace hB := hB.trans (v5.mono hB.size)
  clear v5
  have hzw := Nat.le_refl w5.heap.size
  clear z1 z2
  go_wp2_with fail
  refine (toIntSS_any t T c _ (hr0.below hB) htl rt).mono ?_
  rintro e w6 ⟨Cx, dx, rfl, zx, v6⟩
  have lzx := hB.size
  have lzwzx : w5.heap.size ≤ w5.heap.size := hzw
  replace zw := zw.below v6
  replace hzw := Nat.le_trans hzw v6.size
  replace hB := hB.trans (v6.mono hB.size)
  clear v6
  have hzx := Nat.le_refl w6.heap.size
  go_wp2_with fail
  refine (toIntSS_any h C d _ (hr1.below hB) hhl rh).mono ?_
  rintro e w7 ⟨Cy, dy, rfl, zy, v7⟩
  have lzy := hB.size
  have lzwzy : w5.heap.size ≤ w6.heap.size := hzw
  have lzxzy : w6.heap.size ≤ w6.heap.size := hzx
  replace zw := zw.below v7
  replace zx := zx.below v7
  replace hzw := Nat.le_trans hzw v7.size
  replace hzx := Nat.le_trans hzx v7.size
  replace hB := hB.trans (v7.mono hB.size)
  clear v7
  have hzy := Nat.le_refl w7.heap.size
  go_wp2_with fail
  refine (iGuard_v t h r Hr Cx Cy dx dy _ zx.rd zy.rd hnt gt (by omega) rh3).mono ?_
  rintro e w8 ⟨Cg, dg, rfl, zg, v8⟩
  have lzg := hB.size
  have lzwzg : w5.heap.size ≤ w7.heap.size := hzw
  have lzxzg : w6.heap.size ≤ w7.heap.size := hzx
  have lzyzg : w7.heap.size ≤ w7.heap.size := hzy
  replace zw := zw.below v8
  replace zx := zx.below v8
  replace zy := zy.below v8
  replace hzw := Nat.le_trans hzw v8.size
  replace hzx := Nat.le_trans hzx v8.size
  replace hzy := Nat.le_trans hzy v8.size
  replace hB := hB.trans (v8.mono hB.size)
  clear v8
  have hzg := Nat.le_refl w8.heap.size
  go_wp2_with fail
  refine (eqIntSS_same r Cg Cw dg dw _ zg.rd zw.rd (by omega) rr).mono ?_
  rintro e w9 ⟨rfl, v9⟩
  replace zw := zw.below v9
  replace zx := zx.below v9
  replace zy := zy.below v9
  replace zg := zg.below v9
  replace hzw := Nat.le_trans hzw v9.size
  replace hzx := Nat.le_trans hzx v9.size
  replace hzy := Nat.le_trans hzy v9.size
  replace hzg := Nat.le_trans hzg v9.size
  replace hB := hB.trans (v9.mono hB.size)
  clear v9
  go_wp2_with fail
  refine (toIntSS_any t T c _ (hr0.below hB) htl rt).mono ?_
  rintro e w10 ⟨C3, d3, rfl, z3, v10⟩
  have lz3 := hB.size
  have lzwz3 : w5.heap.size ≤ w9.heap.size := hzw
  have lzxz3 : w6.heap.size ≤ w9.heap.size := hzx
  have lzyz3 : w7.heap.size ≤ w9.heap.size := hzy
  have lzgz3 : w8.heap.size ≤ w9.heap.size := hzg
  replace zw := zw.below v10
  replace zx := zx.below v10
  replace zy := zy.below v10
  replace zg := zg.below v10
  replace hzw := Nat.le_trans hzw v10.size
  replace hzx := Nat.le_trans hzx v10.size
  replace hzy := Nat.le_trans hzy v10.size
  replace hzg := Nat.le_trans hzg v10.size
  replace hB := hB.trans (v10.mono hB.size)
  clear v10
  have hz3 := Nat.le_refl w10.heap.size
  go_wp2_with fail
  refine (eqIntSS_same t Cx C3 dx d3 _ zx.rd z3.rd (by omega) rt2).mono ?_
  rintro e w11 ⟨rfl, v11⟩
  replace zw := zw.below v11
  replace zx := zx.below v11
  replace zy := zy.below v11
  replace zg := zg.below v11
  replace z3 := z3.below v11
  replace hzw := Nat.le_trans hzw v11.size
  replace hzx := Nat.le_trans hzx v11.size
  replace hzy := Nat.le_trans hzy v11.size
  replace hzg := Nat.le_trans hzg v11.size
  replace hz3 := Nat.le_trans hz3 v11.size
  replace hB := hB.trans (v11.mono hB.size)
  clear v11
  clear z3
  go_wp2_with fail
  refine (toIntSS_any h C d _ (hr1.below hB) hhl rh).mono ?_
  rintro e w12 ⟨C4, d4, rfl, z4, v12⟩
  have lz4 := hB.size
  have lzwz4 : w5.heap.size ≤ w11.heap.size := hzw
  have lzxz4 : w6.heap.size ≤ w11.heap.size := hzx
  have lzyz4 : w7.heap.size ≤ w11.heap.size := hzy
  have lzgz4 : w8.heap.size ≤ w11.heap.size := hzg
  replace zw := zw.below v12
  replace zx := zx.below v12
  replace zy := zy.below v12
  replace zg := zg.below v12
  replace hzw := Nat.le_trans hzw v12.size
  replace hzx := Nat.le_trans hzx v12.size
  replace hzy := Nat.le_trans hzy v12.size
  replace hzg := Nat.le_trans hzg v12.size
  replace hB := hB.trans (v12.mono hB.size)
  clear v12
  have hz4 := Nat.le_refl w12.heap.size
  go_wp2_with fail
  refine (eqIntSS_same h Cy C4 dy d4 _ zy.rd z4.rd (by omega) rh2).mono ?_
  rintro e w13 ⟨rfl, v13⟩
  replace zw := zw.below v13
  replace zx := zx.below v13
  replace zy := zy.below v13
  replace zg := zg.below v13
  replace z4 := z4.below v13
  replace hzw := Nat.le_trans hzw v13.size
  replace hzx := Nat.le_trans hzx v13.size
  replace hzy := Nat.le_trans hzy v13.size
  replace hzg := Nat.le_trans hzg v13.size
  replace hz4 := Nat.le_trans hz4 v13.size
  replace hB := hB.trans (v13.mono hB.size)
  clear v13
  clear z4
  go_wp2_with fail
  refine (markIntSS_any t Cx dx _ _ 1 _ zx hzx (by omega) (by omega) (by omega) (by omega)).mono ?_
  rintro e w14 ⟨rfl, m14, gm14⟩
  replace hB := gm14.belowOf hB lzx hB.size
  replace zw := zw.mid gm14 hzw (.inl lzwzx)
  replace zy := zy.mid gm14 hzy (.inr lzxzy)
  replace zg := zg.mid gm14 hzg (.inr lzxzg)
  replace hzw := Nat.le_trans hzw gm14.2.2.2.1
  replace hzx := Nat.le_trans hzx gm14.2.2.2.1
  replace hzy := Nat.le_trans hzy gm14.2.2.2.1
  replace hzg := Nat.le_trans hzg gm14.2.2.2.1
  clear gm14 zx
  clear m14
  go_wp2_with fail
  refine (markIntSS_any h Cy dy _ _ (1 + (tot t : Int)) _ zy hzy (by omega) (by omega) (by omega) (by omega)).mono ?_
  rintro e w15 ⟨rfl, m15, gm15⟩
  replace hB := gm15.belowOf hB lzy hB.size
  replace zw := zw.mid gm15 hzw (.inl lzwzy)
  replace zg := zg.mid gm15 hzg (.inr lzyzg)
  replace hzw := Nat.le_trans hzw gm15.2.2.2.1
  replace hzy := Nat.le_trans hzy gm15.2.2.2.1
  replace hzg := Nat.le_trans hzg gm15.2.2.2.1
  clear gm15 zy
  clear m15
  have hk0 : ¬ (1 + (tot t : Int) + (tot h : Int)) < 0 := by omega
  go_wp2_with fail
  refine (eqIntSS_same r Cg Cw dg dw _ zg.rd zw.rd (by omega) rr).mono ?_
  rintro e w16 ⟨rfl, v16⟩
  replace zw := zw.below v16
  replace zg := zg.below v16
  replace hzw := Nat.le_trans hzw v16.size
  replace hzg := Nat.le_trans hzg v16.size
  replace hB := hB.trans (v16.mono hB.size)
  clear v16
  go_wp2_with fail
  refine (markIntSS_any r Cg dg _ _ 1 _ zg hzg (by omega) (by omega) (by omega) (by omega)).mono ?_
  rintro e w17 ⟨rfl, m17, gm17⟩
  replace hB := gm17.belowOf hB lzg hB.size
  replace zw := zw.mid gm17 hzw (.inl lzwzg)
  replace hzw := Nat.le_trans hzw gm17.2.2.2.1
  replace hzg := Nat.le_trans hzg gm17.2.2.2.1
  clear gm17 zg
  have zg := m17
  clear m17
  go_wp2_with fail
  refine (heldIntSS_any r Cg dg 1 _ zg.rd (by omega) (by omega) (by omega) (by omega)).mono ?_
  rintro e w18 ⟨rfl, v18⟩
  replace zw := zw.below v18
  replace zg := zg.below v18
  replace hzw := Nat.le_trans hzw v18.size
  replace hzg := Nat.le_trans hzg v18.size
  replace hB := hB.trans (v18.mono hB.size)
  clear v18
  have hk1 : ¬ (1 + (tot r : Int)) < 0 := by omega
  go_wp2_with fail
  refine (toIntSS_any t T c _ (hr0.below hB) htl rt).mono ?_
  rintro e w19 ⟨C5, d5, rfl, z5, v19⟩
  have lz5 := hB.size
  have lzwz5 : w5.heap.size ≤ w18.heap.size := hzw
  have lzgz5 : w8.heap.size ≤ w18.heap.size := hzg
  replace zw := zw.below v19
  replace zg := zg.below v19
  replace hzw := Nat.le_trans hzw v19.size
  replace hzg := Nat.le_trans hzg v19.size
  replace hB := hB.trans (v19.mono hB.size)
  clear v19
  have hz5 := Nat.le_refl w19.heap.size
  go_wp2_with fail
  refine (toIntSS_any h C d _ (hr1.below hB) hhl rh).mono ?_
  rintro e w20 ⟨C6, d6, rfl, z6, v20⟩
  have lz6 := hB.size
  have lzwz6 : w5.heap.size ≤ w19.heap.size := hzw
  have lzgz6 : w8.heap.size ≤ w19.heap.size := hzg
  have lz5z6 : w19.heap.size ≤ w19.heap.size := hz5
  replace zw := zw.below v20
  replace zg := zg.below v20
  replace z5 := z5.below v20
  replace hzw := Nat.le_trans hzw v20.size
  replace hzg := Nat.le_trans hzg v20.size
  replace hz5 := Nat.le_trans hz5 v20.size
  replace hB := hB.trans (v20.mono hB.size)
  clear v20
  have hz6 := Nat.le_refl w20.heap.size
  go_wp2_with fail
  refine (iGuard_v t h r Hr C5 C6 d5 d6 _ z5.rd z6.rd hnt gt (by omega) rh3).mono ?_
  rintro e w21 ⟨Ch, dh, rfl, zh, v21⟩
  have lzh := hB.size
  have lzwzh : w5.heap.size ≤ w20.heap.size := hzw
  have lzgzh : w8.heap.size ≤ w20.heap.size := hzg
  have lz5zh : w19.heap.size ≤ w20.heap.size := hz5
  have lz6zh : w20.heap.size ≤ w20.heap.size := hz6
  replace zw := zw.below v21
  replace zg := zg.below v21
  replace z5 := z5.below v21
  replace z6 := z6.below v21
  replace hzw := Nat.le_trans hzw v21.size
  replace hzg := Nat.le_trans hzg v21.size
  replace hz5 := Nat.le_trans hz5 v21.size
  replace hz6 := Nat.le_trans hz6 v21.size
  replace hB := hB.trans (v21.mono hB.size)
  clear v21
  have hzh := Nat.le_refl w21.heap.size
  clear z5 z6
  go_wp2_with fail
  refine (eqIntSS_same r Ch Cw dh dw _ zh.rd zw.rd (by omega) rr).mono ?_
  rintro e w22 ⟨rfl, v22⟩
  replace zw := zw.below v22
  replace zg := zg.below v22
  replace zh := zh.below v22
  replace hzw := Nat.le_trans hzw v22.size
  replace hzg := Nat.le_trans hzg v22.size
  replace hzh := Nat.le_trans hzh v22.size
  replace hB := hB.trans (v22.mono hB.size)
  clear v22
  go_wp2_with fail
  refine (heldIntSS_any r Cg dg 1 _ zg.rd (by omega) (by omega) (by omega) (by omega)).mono ?_
  rintro e w23 ⟨rfl, v23⟩
  replace zw := zw.below v23
  replace zg := zg.below v23
  replace zh := zh.below v23
  replace hzw := Nat.le_trans hzw v23.size
  replace hzg := Nat.le_trans hzg v23.size
  replace hzh := Nat.le_trans hzh v23.size
  replace hB := hB.trans (v23.mono hB.size)
  clear v23
  go_wp2_with fail
  go_ret
  exact ⟨rfl, hB⟩

set_option maxRecDepth 100000 in
theorem lifted (os : Os) (started : os.Started) (H : Type) (enc : TypeId × Value → H) :
    ReturnsInHanded {} Try.checked os 7 .any (Rows.fnExactGuardHistorySpec.pre6 enc Try.prog Try.f7 Rows.fnExactGuardHistoryRow.domain false) (Rows.fnExactGuardHistorySpec.post enc Try.prog Try.f7 false true false false) := by
  refine returnsInHanded_of_change (C := Try.checked) own started (by kernel_rfl) Try.func7
    (ChangeSpec.witness6 (enc := enc) (C := Try.checked) false ⟨#[], #[.slice none 0 0, .slice none 0 0], []⟩ 8 (by kernel_rfl) (by kernel_rfl) (by kernel_rfl) (by kernel_rfl)) ?_
  intro W base args ds gs before hval0 hW hcnd _
  have hval : ∀ (j : Nat) t v, Try.f7.params[j]? = some t → args[j]? = some v → Value.okWide Try.prog W .any base t v := hval0
  have hW' := hW
  obtain ⟨p, q, hA0, hV, rfl, hfz, hnd⟩ := hW
  have hA : DataW.TrodAll enc Try.prog W 0 (fun _ => true) true Try.f7.params.toList args.toList ds p := hA0
  rw [Try.params7] at hA hval
  obtain ⟨v0, vs0, d0, ds0, p0, q0, hargs, rfl, rfl, h0, r0⟩ := trodAll_cons hA
  obtain ⟨v1, vs1, d1, ds1, p1, q1, rfl, rfl, rfl, h1, r1⟩ := trodAll_cons r0
  obtain ⟨rfl, rfl, rfl⟩ := trodAll_nil r1
  obtain rfl : args = #[v0, v1] := by cases args; simp_all
  obtain ⟨rfl, rfl⟩ := trodVars_none hV
  have k0 := h0
  have lt0 : ∀ x ∈ p0, x.block < W.heap.size := by obtain ⟨m, hm⟩ := k0; exact DataW.trod_lt m _ _ _ hm
  obtain ⟨a0, len0, cap0, rfl⟩ := okWide_slice Try.underlying23 (hval 0 23 v0 rfl rfl)
  obtain ⟨z0, rfl, w0, l0, hc0, wf0⟩ := open_intssAt Try.underlying23 Try.underlying32 Try.underlying3 (by kernel_rfl) (by kernel_rfl) h0
  have k1 := h1
  have lt1 : ∀ x ∈ p1, x.block < W.heap.size := by obtain ⟨m, hm⟩ := k1; exact DataW.trod_lt m _ _ _ hm
  obtain ⟨a1, len1, cap1, rfl⟩ := okWide_slice Try.underlying23 (hval 1 23 v1 rfl rfl)
  obtain ⟨z1, rfl, w1, l1, hc1, wf1⟩ := open_intssAt Try.underlying23 Try.underlying32 Try.underlying3 (by kernel_rfl) (by kernel_rfl) h1
  clear hA0 hval0
  refine (walk a0 cap0 z0 a1 cap1 z1 W w0 l0 (Nat.le_trans hc0 wf0) w1 l1 (Nat.le_trans hc1 wf1)).mono fun e W' ⟨he, bel⟩ => ?_
  subst he
  exact ⟨_, rfl, _, _, _, [], _, [], hW', trodAll_mk1 (shut_bool Try.underlying4 _), (trodAll_cons_mk (Below.trod laidOut (by kernel_rfl) (of_decide_eq_true (by kernel_rfl)) k0 bel lt0) (trodAll_cons_mk (Below.trod laidOut (by kernel_rfl) (of_decide_eq_true (by kernel_rfl)) k1 bel lt1) trodAll_mk0)), rfl, bel.frame _, fun h => by cases h⟩

theorem over : Rows.fnExactGuardHistoryRow.holds Try.pinned (OpenSpec.ofChange Rows.fnExactGuardHistorySpec) :=
  OpenClaim.holds_of_wide 7 Try.f7 rfl rfl rfl rfl rfl rfl rfl ⟨rfl, rfl, rfl, rfl, rfl⟩ rfl rfl rfl rfl rfl (by kernel_rfl) Try.func7 (by kernel_rfl)
    (of_decide_eq_true (by kernel_rfl)) (by unfold Func.isWrapper; first | (rw [if_pos (by decide +kernel)]; kernel_rfl) | (rw [if_neg (by decide +kernel)]; exact ⟨rfl, rfl⟩))
    (fun os started H enc _ => lifted os started H enc)

theorem proved : Rows.FnExactGuardHistorySaid := over
end Go.Proofs.Ytcckipckgnkieaa.FnExactGuardHistory
