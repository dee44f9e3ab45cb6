/-
  The statement FnPassesStreet: cars pass or stop.
-/
import Derived.Test.YtmnapeefclkldaaStFn
namespace Go.Proofs.Ytmnapeefclkldaa.FnPassesStreet
open Go.RowKit Go.ChangeShapes Go.WideShapes Go.ChangeAt Go.Proofs.Ytmnapeefclkldaa
set_option linter.unusedVariables false

set_option maxHeartbeats 6400000 in
theorem walk (A : Option Addr) (len cap : Nat) (w : World) (h : Bytes w A len) (hc : len ≤ cap) :
    Calls Try.prog 7 #[.slice A len cap] w fun e w' => e = .returned (.bool true) ∧ Below w.heap.size w w' := by
  by_cases hl1 : 1048576 < len
  · go_enter Try.func7, Try.ntmps7
    go_wp2_with fail
    go_ret
    exact ⟨rfl, Below.refl _ _⟩
  go_enter Try.func7, Try.ntmps7
  go_wp2_with fail
  refine (drawC_any _ A len cap h hc).mono ?_
  rintro e w1 ⟨s, os, G, T, O, c, d, f, t, rfl, ⟨hs, lg, lt, nG, nT, cG, cT⟩, ho, nO, cO, lo, ht0, ht1, v1⟩
  have hB := v1
  have bs := Blk.new w1 27 (strC s G T c d)
  replace hs := hs.alloc (.cells (strC s G T c d) 27)
  replace ho := ho.alloc (.cells (strC s G T c d) 27)
  replace hB := hB.alloc hB.size (.cells (strC s G T c d) 27)
  have hgs0 : w.heap.size ≤ w1.heap.size := v1.size
  clear v1
  clear h
  obtain ⟨b, hb0⟩ : ∃ b, b = passesF s os t := ⟨_, rfl⟩
  have Hb := Lib.hid hb0
  obtain ⟨n, hn⟩ : ∃ n, n = bandF s os := ⟨_, rfl⟩
  have Hn := Lib.hid hn
  have hend : t < 0 ∨ 9969 < t ∨ validO s os = false ∨ (0 ≤ t ∧ t ≤ 9969 ∧ validO s os = true) := by
    cases hv : validO s os
    · exact .inr (.inr (.inl rfl))
    · have : t < 0 ∨ 9969 < t ∨ (0 ≤ t ∧ t ≤ 9969) := by omega
      rcases this with h | h | h
      · exact .inl h
      · exact .inr (.inl h)
      · exact .inr (.inr (.inr ⟨h.1, h.2, rfl⟩))
  clear hb0
  go_wp2_with fail
  generalize w1.alloc (.cells (strC s G T c d) 27) = wb at *
  obtain ⟨gs, hgs⟩ : ∃ gs, gs = w1.heap.size := ⟨_, rfl⟩
  rw [← hgs] at bs hgs0
  simp only [← hgs]
  clear hgs
  refine (iPasses_v s os b t Hb G T O c d f _ hs ho (by omega)).mono ?_
  rintro e w2 ⟨rfl, v2⟩
  replace bs := bs.below v2 bs.lt
  replace hs := hs.below v2
  replace ho := ho.below v2
  replace hB := hB.trans (v2.mono hB.size)
  clear v2
  obtain ⟨k0, k1, k2⟩ := loadS bs
  go_wp2_with fail
  refine (sPasses_v s os b t Hb G T O c d f _ hs ho (by omega)).mono ?_
  rintro e w3 ⟨rfl, v3⟩
  replace bs := bs.below v3 bs.lt
  replace hs := hs.below v3
  replace ho := ho.below v3
  replace hB := hB.trans (v3.mono hB.size)
  clear v3
  clear k0 k1 k2
  rcases hend with hq | hq | hq | ⟨hq0, hq1, hv⟩
  · skip
    have hq2 : ¬ 0 ≤ t := by omega
    clear hn
    obtain ⟨k0, k1, k2⟩ := loadS bs
    go_wp2_with fail
    refine (sPasses_v s os b t Hb G T O c d f _ hs ho (by omega)).mono ?_
    rintro e w4 ⟨rfl, v4⟩
    replace bs := bs.below v4 bs.lt
    replace hs := hs.below v4
    replace ho := ho.below v4
    replace hB := hB.trans (v4.mono hB.size)
    clear v4
    clear k0 k1 k2
    go_wp2_with fail
    go_ret
    exact ⟨rfl, hB⟩
  · skip
    have hq2 : ¬ t < 0 := by omega
    clear hn
    obtain ⟨k0, k1, k2⟩ := loadS bs
    go_wp2_with fail
    refine (sPasses_v s os b t Hb G T O c d f _ hs ho (by omega)).mono ?_
    rintro e w4 ⟨rfl, v4⟩
    replace bs := bs.below v4 bs.lt
    replace hs := hs.below v4
    replace ho := ho.below v4
    replace hB := hB.trans (v4.mono hB.size)
    clear v4
    clear k0 k1 k2
    go_wp2_with fail
    go_ret
    exact ⟨rfl, hB⟩
  · skip
    have hnn : n = -1 := by rw [hn]; simp [bandF, hq]
    have Hn : Hid ((-1 : Int) = bandF s os) := Lib.hid (by rw [← hnn, hn])
    clear hn hnn hq
    by_cases hq0 : t < 0
    · skip
      obtain ⟨k0, k1, k2⟩ := loadS bs
      go_wp2_with fail
      refine (sPasses_v s os b t Hb G T O c d f _ hs ho (by omega)).mono ?_
      rintro e w4 ⟨rfl, v4⟩
      replace bs := bs.below v4 bs.lt
      replace hs := hs.below v4
      replace ho := ho.below v4
      replace hB := hB.trans (v4.mono hB.size)
      clear v4
      clear k0 k1 k2
      go_wp2_with fail
      go_ret
      exact ⟨rfl, hB⟩
    · skip
      by_cases hq1 : 9969 < t
      · skip
        obtain ⟨k0, k1, k2⟩ := loadS bs
        go_wp2_with fail
        refine (sPasses_v s os b t Hb G T O c d f _ hs ho (by omega)).mono ?_
        rintro e w4 ⟨rfl, v4⟩
        replace bs := bs.below v4 bs.lt
        replace hs := hs.below v4
        replace ho := ho.below v4
        replace hB := hB.trans (v4.mono hB.size)
        clear v4
        clear k0 k1 k2
        go_wp2_with fail
        go_ret
        exact ⟨rfl, hB⟩
      · skip
        obtain ⟨k0, k1, k2⟩ := loadS bs
        go_wp2_with fail
        refine (iBand_v s os (-1) Hn G T O c d f _ hs ho (by omega)).mono ?_
        rintro e w4 ⟨rfl, v4⟩
        replace bs := bs.below v4 bs.lt
        replace hs := hs.below v4
        replace ho := ho.below v4
        replace hB := hB.trans (v4.mono hB.size)
        clear v4
        clear k0 k1 k2
        obtain ⟨k0, k1, k2⟩ := loadS bs
        go_wp2_with fail
        refine (sPasses_v s os b t Hb G T O c d f _ hs ho (by omega)).mono ?_
        rintro e w5 ⟨rfl, v5⟩
        replace bs := bs.below v5 bs.lt
        replace hs := hs.below v5
        replace ho := ho.below v5
        replace hB := hB.trans (v5.mono hB.size)
        clear v5
        clear k0 k1 k2
        go_wp2_with fail
        go_ret
        exact ⟨rfl, hB⟩
  · skip
    have hg := validO_iff.mp hv
    have hnb := band_nonneg hg
    rw [← hn] at hnb
    have hc1 := hg.g.c1
    have hc2 := hg.g.c2
    have Hb2 := Lib.hid (show b = passesF s os (t + s.cy) by
      rw [Hb.out]
      have h1 : inB t 0 9999 = true := inB_iff.mpr (by omega)
      have h2 : inB (t + s.cy) 0 9999 = true := inB_iff.mpr (by omega)
      simp [passesF, hv, h1, h2, passF_add])
    have Hpos := Lib.hid (show b = true → ∀ i, i < s.gr.length → 0 < ga s.gr i from fun hb i hi => by
      rw [Hb.out] at hb
      simp only [passesF, Bool.and_eq_true] at hb
      exact pass_pos hg.g hb.2 hi)
    clear hn hv hg
    obtain ⟨k0, k1, k2⟩ := loadS bs
    go_wp2_with fail
    refine (iBand_v s os n Hn G T O c d f _ hs ho (by omega)).mono ?_
    rintro e w4 ⟨rfl, v4⟩
    replace bs := bs.below v4 bs.lt
    replace hs := hs.below v4
    replace ho := ho.below v4
    replace hB := hB.trans (v4.mono hB.size)
    clear v4
    clear k0 k1 k2
    obtain ⟨k0, k1, k2⟩ := loadS bs
    go_wp2_with fail
    clear k0 k1 k2
    go_loopw [7] (fun vi wq => ∃ j : Nat, j ≤ s.gr.length ∧ vi = .int .i64 j ∧ ∃ m, wq = w4.drewN m) (fun vi _ => s.gr.length - (intOf vi).toNat)
    case atStart => exact ⟨0, Nat.zero_le _, rfl, 0, rfl⟩
    case round =>
      obtain ⟨j, hj, rfl, m, rfl⟩ := hrel
      obtain ⟨k0, k1, k2⟩ := loadS bs
      by_cases hlt2 : j < s.gr.length
      · have hgj : b = true → 0 < ga s.gr j := fun hb => Hpos.out hb j hlt2
        obtain ⟨b2, o2, rfl, hcj⟩ := hs.hg.at hlt2
        rw [ga_at hlt2] at hcj
        simp only [fI] at hcj
        generalize ga s.gr j = y at *
        cases b with
        | true =>
          have hy : (y == 0) = false := by have := hgj rfl; simp; omega
          clear hgj
          go_wp2_with fail
          go_roundw
          case rel => exact ⟨j + 1, by omega, by go_num, _, rfl⟩
          case measure => simp [intOf]; omega
        | false =>
          clear hgj
          go_wp2_with fail
          go_roundw
          case rel => exact ⟨j + 1, by omega, by go_num, _, rfl⟩
          case measure => simp [intOf]; omega
      · have hst : 0 ≤ t + s.cy := by omega
        have hB5 := below_drewN hB m
        have hs5 := hs.drewN m
        have ho5 := ho.drewN m
        go_wp2_with fail
        clear k0 k1 k2
        refine (iPasses_v s os b (t + s.cy) Hb2 G T O c d f _ hs5 ho5 (by omega)).mono ?_
        rintro e w9 ⟨rfl, v9⟩
        replace hB5 := hB5.trans (v9.mono hB5.size)
        clear v9
        go_wp2_with fail
        go_ret
        exact ⟨by simp, hB5⟩

set_option maxRecDepth 100000 in
theorem lifted (os : Os) (started : os.Started) (H : Type) (enc : TypeId × Value → H) :
    ReturnsInHanded {} Try.checked os 7 .any (Rows.fnPassesStreetSpec.pre6 enc Try.prog Try.f7 Rows.fnPassesStreetRow.domain false) (Rows.fnPassesStreetSpec.post enc Try.prog Try.f7 false true false false) := by
  refine returnsInHanded_of_change (C := Try.checked) own started (by kernel_rfl) Try.func7
    (ChangeSpec.witness6 (enc := enc) (C := Try.checked) false ⟨#[], #[.slice none 0 0], []⟩ 8 (by kernel_rfl) (by kernel_rfl) (by kernel_rfl) (by kernel_rfl)) ?_
  intro W base args ds gs before hval0 hW hcnd _
  have hval : ∀ (j : Nat) t v, Try.f7.params[j]? = some t → args[j]? = some v → Value.okWide Try.prog W .any base t v := hval0
  have hW' := hW
  obtain ⟨p, q, hA0, hV, rfl, hfz, hnd⟩ := hW
  have hA : DataW.TrodAll enc Try.prog W 0 (fun _ => true) true Try.f7.params.toList args.toList ds p := hA0
  rw [Try.params7] at hA hval
  obtain ⟨v0, vs0, d0, ds0, p0, q0, hargs, rfl, rfl, h0, r0⟩ := trodAll_cons hA
  obtain ⟨rfl, rfl, rfl⟩ := trodAll_nil r0
  obtain rfl : args = #[v0] := by cases args; simp_all
  obtain ⟨rfl, rfl⟩ := trodVars_none hV
  have k0 := h0
  have lt0 : ∀ x ∈ p0, x.block < W.heap.size := by obtain ⟨m, hm⟩ := k0; exact DataW.trod_lt m _ _ _ hm
  obtain ⟨a0, len0, cap0, rfl⟩ := okWide_slice Try.underlying39 (hval 0 39 v0 rfl rfl)
  obtain ⟨w0, hc0⟩ := open_bytes Try.underlying39 Try.underlying5 (by kernel_rfl) h0
  clear hA0 hval0
  refine (walk a0 len0 cap0 W w0 hc0).mono fun e W' ⟨he, bel⟩ => ?_
  subst he
  exact ⟨_, rfl, _, _, _, [], _, [], hW', trodAll_mk1 (shut_bool Try.underlying4 _), (trodAll_cons_mk (Below.trod laidOut (by kernel_rfl) (of_decide_eq_true (by kernel_rfl)) k0 bel lt0) trodAll_mk0), rfl, bel.frame _, fun h => by cases h⟩

theorem over : Rows.fnPassesStreetRow.holds Try.pinned (OpenSpec.ofChange Rows.fnPassesStreetSpec) :=
  OpenClaim.holds_of_wide 7 Try.f7 rfl rfl rfl rfl rfl rfl rfl ⟨rfl, rfl, rfl, rfl, rfl⟩ rfl rfl rfl rfl rfl (by kernel_rfl) Try.func7 (by kernel_rfl)
    (of_decide_eq_true (by kernel_rfl)) (by unfold Func.isWrapper; first | (rw [if_pos (by decide +kernel)]; kernel_rfl) | (rw [if_neg (by decide +kernel)]; exact ⟨rfl, rfl⟩))
    (fun os started H enc _ => lifted os started H enc)

theorem proved : Rows.FnPassesStreetSaid := over
end Go.Proofs.Ytmnapeefclkldaa.FnPassesStreet
