/-
  The statement FnWaveOffsets: waves lose nothing.
-/
import Derived.Test.YtmnapeefclkldaaStFn
namespace Go.Proofs.Ytmnapeefclkldaa.FnWaveOffsets
open Go.RowKit Go.ChangeShapes Go.WideShapes Go.ChangeAt Go.Proofs.Ytmnapeefclkldaa
set_option linter.unusedVariables false

set_option maxHeartbeats 6400000 in
theorem walk (A : Option Addr) (len cap : Nat) (w : World) (h : Bytes w A len) (hc : len ≤ cap) :
    Calls Try.prog 6 #[.slice A len cap] w fun e w' => e = .returned (.bool true) ∧ Below w.heap.size w w' := by
  by_cases hl1 : 1048576 < len
  · go_enter Try.func6, Try.ntmps6
    go_wp2_with fail
    go_ret
    exact ⟨rfl, Below.refl _ _⟩
  go_enter Try.func6, Try.ntmps6
  go_wp2_with fail
  refine (drawA_any _ A len cap h hc).mono ?_
  rintro e w1 ⟨s, G, T, c, d, rfl, ⟨hs, lg, lt, nG, nT, cG, cT⟩, v1⟩
  have hB := v1
  have bs := Blk.new w1 27 (strC s G T c d)
  replace hs := hs.alloc (.cells (strC s G T c d) 27)
  replace hB := hB.alloc hB.size (.cells (strC s G T c d) 27)
  have hgs0 : w.heap.size ≤ w1.heap.size := v1.size
  clear v1
  clear h
  cases hv : validT s with
  | false =>
    have H := Lib.hid (show waveF s = [] by simp [waveF, hv])
    clear hv
    go_wp2_with fail
    generalize w1.alloc (.cells (strC s G T c d) 27) = wb at *
    obtain ⟨gs, hgs⟩ : ∃ gs, gs = w1.heap.size := ⟨_, rfl⟩
    rw [← hgs] at bs hgs0
    simp only [← hgs]
    clear hgs
    refine (iWave_l s [] (Lib.hid H.out.symm) G T c d _ hs).mono ?_
    rintro e w2 ⟨A2, c2, rfl, y2, v2⟩
    replace bs := bs.below v2 bs.lt
    replace hs := hs.below v2
    replace hB := hB.trans (v2.mono hB.size)
    clear v2
    obtain ⟨k0, k1, k2⟩ := loadS bs
    go_wp2_with fail
    refine (sWave_l s [] (Lib.hid H.out.symm) G T c d _ hs).mono ?_
    rintro e w3 ⟨A3, c3, rfl, y3, v3⟩
    replace bs := bs.below v3 bs.lt
    replace hs := hs.below v3
    replace y2 := y2.below v3
    replace hB := hB.trans (v3.mono hB.size)
    clear v3
    clear k0 k1 k2
    obtain ⟨k0, k1, k2⟩ := loadS bs
    go_wp2_with fail
    refine (equalInts_same [] A2 A3 c2 c3 _ y2.rd y3.rd (by simp)).mono ?_
    rintro e w4 ⟨rfl, v4⟩
    replace bs := bs.below v4 bs.lt
    replace hs := hs.below v4
    replace y2 := y2.below v4
    replace hB := hB.trans (v4.mono hB.size)
    clear v4
    clear k0 k1 k2
    obtain ⟨k0, k1, k2⟩ := loadS bs
    go_wp2_with fail
    refine (sWave_l s [] (Lib.hid H.out.symm) G T c d _ hs).mono ?_
    rintro e w5 ⟨A4, c4, rfl, y4, v5⟩
    replace bs := bs.below v5 bs.lt
    replace hs := hs.below v5
    replace y2 := y2.below v5
    replace hB := hB.trans (v5.mono hB.size)
    clear v5
    clear k0 k1 k2
    obtain ⟨k0, k1, k2⟩ := loadS bs
    go_wp2_with fail
    refine (equalInts_same [] A2 A4 c2 c4 _ y2.rd y4.rd (by simp)).mono ?_
    rintro e w6 ⟨rfl, v6⟩
    replace bs := bs.below v6 bs.lt
    replace hs := hs.below v6
    replace y2 := y2.below v6
    replace hB := hB.trans (v6.mono hB.size)
    clear v6
    clear k0 k1 k2
    go_wp2_with fail
    go_ret
    exact ⟨rfl, hB⟩
  | true =>
    have hg := validT_iff.mp hv
    obtain ⟨os, hos⟩ : ∃ os, os = waveF s := ⟨_, rfl⟩
    have hosw : os = waveL s := by rw [hos]; simp [waveF, hv]
    obtain ⟨n, hn⟩ : ∃ n, n = bandF s os := ⟨_, rfl⟩
    have Hos := Lib.hid hos
    have Hn := Lib.hid hn
    have hg1 := hg.g1
    have hg2 := hg.g2
    have hol : os.length ≤ 4 := by rw [hosw, waveL, mapN_length]; exact hg2
    have hop : 1 ≤ os.length := by rw [hosw, waveL, mapN_length]; exact hg1
    have ho0 := Lib.hid (show ga os 0 = 0 by rw [hosw]; exact wave_head hg)
    have Hl := Lib.hid (show leastN s.gr s.gr.length = n by rw [hn, hosw, wave_band hg])
    have hl0 : (((os.length : Nat) : Int) == 0) = false := by rw [beq_eq_false_iff_ne]; omega
    clear hos hosw hn hg hv
    go_wp2_with fail
    generalize w1.alloc (.cells (strC s G T c d) 27) = wb at *
    obtain ⟨gs, hgs⟩ : ∃ gs, gs = w1.heap.size := ⟨_, rfl⟩
    rw [← hgs] at bs hgs0
    simp only [← hgs]
    clear hgs
    refine (iWave_l s os Hos G T c d _ hs).mono ?_
    rintro e w2 ⟨A2, c2, rfl, y2, v2⟩
    replace bs := bs.below v2 bs.lt
    replace hs := hs.below v2
    replace hB := hB.trans (v2.mono hB.size)
    clear v2
    obtain ⟨k0, k1, k2⟩ := loadS bs
    go_wp2_with fail
    refine (sWave_l s os Hos G T c d _ hs).mono ?_
    rintro e w3 ⟨A3, c3, rfl, y3, v3⟩
    replace bs := bs.below v3 bs.lt
    replace hs := hs.below v3
    replace y2 := y2.below v3
    replace hB := hB.trans (v3.mono hB.size)
    clear v3
    clear k0 k1 k2
    obtain ⟨k0, k1, k2⟩ := loadS bs
    go_wp2_with fail
    refine (equalInts_same os A2 A3 c2 c3 _ y2.rd y3.rd (by omega)).mono ?_
    rintro e w4 ⟨rfl, v4⟩
    replace bs := bs.below v4 bs.lt
    replace hs := hs.below v4
    replace y2 := y2.below v4
    replace hB := hB.trans (v4.mono hB.size)
    clear v4
    clear k0 k1 k2
    clear y3
    obtain ⟨bg, og, rfl, hcg0⟩ := hs.hg.at (k := 0) (by omega)
    rw [ga_at (by omega)] at hcg0
    simp only [fI, Nat.add_zero] at hcg0
    have hl0' := Lib.hid (show leastN s.gr 0 = ga s.gr 0 from rfl)
    generalize ga s.gr 0 = y0 at hcg0 hl0'
    obtain ⟨k0, k1, k2⟩ := loadS bs
    go_wp2_with fail
    clear k0 k1 k2 hcg0 hl0
    rw [← hl0'.out]
    go_loopw [5, 6] (fun vl vi wq => ∃ j : Nat, j ≤ s.gr.length ∧ vi = .int .i64 j ∧ vl = .int .i64 (leastN s.gr j) ∧ ∃ m, wq = w4.drewN m) (fun _ vi _ => s.gr.length - (intOf vi).toNat)
    case atStart => exact ⟨0, Nat.zero_le _, rfl, rfl, 0, rfl⟩
    case round =>
      obtain ⟨j, hj, rfl, rfl, m, rfl⟩ := hrel
      obtain ⟨k0, k1, k2⟩ := loadS bs
      by_cases hlt2 : j < s.gr.length
      · obtain ⟨b2, o2, e2, hcj⟩ := hs.hg.at hlt2
        obtain ⟨rfl, rfl⟩ : bg = b2 ∧ og = o2 := by simpa using e2
        rw [ga_at hlt2] at hcj
        simp only [fI] at hcj
        have hsu := Lib.hid (show leastN s.gr (j + 1) = min (leastN s.gr j) (ga s.gr j) from rfl)
        clear e2
        generalize ga s.gr j = y at *
        generalize leastN s.gr j = x at *
        go_wp2_with fail
        all_goals
          go_roundw
          case rel => exact ⟨j + 1, by omega, by go_num, by rw [hsu.out]; congr 1; omega, _, rfl⟩
          case measure => simp [intOf]; omega
      · obtain rfl : j = s.gr.length := by omega
        rw [Hl.out]
        have hB5 := below_drewN hB m
        have hs5 := hs.drewN m
        have ho5 := y2.rd.drewN m
        go_wp2_with fail
        clear k0 k1 k2
        refine (iBand_v s os n Hn _ T A2 c d c2 _ hs5 ho5 (by omega)).mono ?_
        rintro e w9 ⟨rfl, v9⟩
        obtain ⟨b2, o2, rfl, hc0⟩ := (ho5.below v9).at (k := 0) (by omega)
        rw [ga_at (by omega), ho0.out] at hc0
        simp only [fI, Nat.add_zero] at hc0
        replace hB5 := hB5.trans (v9.mono hB5.size)
        clear v9
        go_wp2_with fail
        go_ret
        exact ⟨rfl, hB5⟩

set_option maxRecDepth 100000 in
theorem lifted (os : Os) (started : os.Started) (H : Type) (enc : TypeId × Value → H) :
    ReturnsInHanded {} Try.checked os 6 .any (Rows.fnWaveOffsetsSpec.pre6 enc Try.prog Try.f6 Rows.fnWaveOffsetsRow.domain false) (Rows.fnWaveOffsetsSpec.post enc Try.prog Try.f6 false true false false) := by
  refine returnsInHanded_of_change (C := Try.checked) own started (by kernel_rfl) Try.func6
    (ChangeSpec.witness6 (enc := enc) (C := Try.checked) false ⟨#[], #[.slice none 0 0], []⟩ 8 (by kernel_rfl) (by kernel_rfl) (by kernel_rfl) (by kernel_rfl)) ?_
  intro W base args ds gs before hval0 hW hcnd _
  have hval : ∀ (j : Nat) t v, Try.f6.params[j]? = some t → args[j]? = some v → Value.okWide Try.prog W .any base t v := hval0
  have hW' := hW
  obtain ⟨p, q, hA0, hV, rfl, hfz, hnd⟩ := hW
  have hA : DataW.TrodAll enc Try.prog W 0 (fun _ => true) true Try.f6.params.toList args.toList ds p := hA0
  rw [Try.params6] at hA hval
  obtain ⟨v0, vs0, d0, ds0, p0, q0, hargs, rfl, rfl, h0, r0⟩ := trodAll_cons hA
  obtain ⟨rfl, rfl, rfl⟩ := trodAll_nil r0
  obtain rfl : args = #[v0] := by cases args; simp_all
  obtain ⟨rfl, rfl⟩ := trodVars_none hV
  have k0 := h0
  have lt0 : ∀ x ∈ p0, x.block < W.heap.size := by obtain ⟨m, hm⟩ := k0; exact DataW.trod_lt m _ _ _ hm
  obtain ⟨a0, len0, cap0, rfl⟩ := okWide_slice Try.underlying39 (hval 0 39 v0 rfl rfl)
  obtain ⟨w0, hc0⟩ := open_bytes Try.underlying39 Try.underlying5 (by kernel_rfl) h0
  clear hA0 hval0
  refine (walk a0 len0 cap0 W w0 hc0).mono fun e W' ⟨he, bel⟩ => ?_
  subst he
  exact ⟨_, rfl, _, _, _, [], _, [], hW', trodAll_mk1 (shut_bool Try.underlying4 _), (trodAll_cons_mk (Below.trod laidOut (by kernel_rfl) (of_decide_eq_true (by kernel_rfl)) k0 bel lt0) trodAll_mk0), rfl, bel.frame _, fun h => by cases h⟩

theorem over : Rows.fnWaveOffsetsRow.holds Try.pinned (OpenSpec.ofChange Rows.fnWaveOffsetsSpec) :=
  OpenClaim.holds_of_wide 6 Try.f6 rfl rfl rfl rfl rfl rfl rfl ⟨rfl, rfl, rfl, rfl, rfl⟩ rfl rfl rfl rfl rfl (by kernel_rfl) Try.func6 (by kernel_rfl)
    (of_decide_eq_true (by kernel_rfl)) (by unfold Func.isWrapper; first | (rw [if_pos (by decide +kernel)]; kernel_rfl) | (rw [if_neg (by decide +kernel)]; exact ⟨rfl, rfl⟩))
    (fun os started H enc _ => lifted os started H enc)

theorem proved : Rows.FnWaveOffsetsSaid := over
end Go.Proofs.Ytmnapeefclkldaa.FnWaveOffsets
