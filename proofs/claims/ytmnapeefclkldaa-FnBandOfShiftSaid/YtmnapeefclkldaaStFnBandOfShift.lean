/-
  The statement FnBandOfShift: only differences of offsets count.
-/
import Derived.Test.YtmnapeefclkldaaStFn
import Derived.Test.YtmnapeefclkldaaRegM
namespace Go.Proofs.Ytmnapeefclkldaa.FnBandOfShift
open Go.RowKit Go.ChangeShapes Go.WideShapes Go.ChangeAt Go.Proofs.Ytmnapeefclkldaa
set_option linter.unusedVariables false

set_option maxHeartbeats 6400000 in
theorem walk (A : Option Addr) (len cap : Nat) (w : World) (h : Bytes w A len) (hc : len ≤ cap) :
    Calls Try.prog 10 #[.slice A len cap] w fun e w' => e = .returned (.bool true) ∧ Below w.heap.size w w' := by
  by_cases hl1 : 1048576 < len
  · go_enter Try.func10, Try.ntmps10
    go_wp2_with fail
    go_ret
    exact ⟨rfl, Below.refl _ _⟩
  go_enter Try.func10, Try.ntmps10
  go_wp2_with fail
  refine (drawB_any _ A len cap h hc).mono ?_
  rintro e w1 ⟨s, os, G, T, O, c, d, f, rfl, ⟨hs, lg, lt, nG, nT, cG, cT⟩, ho, nO, cO, lo, v1⟩
  have hB := v1
  have bs := Blk.new w1 27 (strC s G T c d)
  replace hs := hs.alloc (.cells (strC s G T c d) 27)
  replace ho := ho.alloc (.cells (strC s G T c d) 27)
  replace hB := hB.alloc hB.size (.cells (strC s G T c d) 27)
  have hgs0 : w.heap.size ≤ w1.heap.size := v1.size
  clear v1
  clear h
  cases hv : validO s os with
  | false =>
    have Hn := Lib.hid (show (-1 : Int) = bandF s os by simp [bandF, hv])
    clear hv
    go_wp2_with fail
    generalize w1.alloc (.cells (strC s G T c d) 27) = wb at *
    obtain ⟨gs, hgs⟩ : ∃ gs, gs = w1.heap.size := ⟨_, rfl⟩
    rw [← hgs] at bs hgs0
    simp only [← hgs]
    clear hgs
    refine (iBand_v s os (-1) Hn G T O c d f _ hs ho (by omega)).mono ?_
    rintro e w2 ⟨rfl, v2⟩
    replace bs := bs.below v2 bs.lt
    replace hs := hs.below v2
    replace ho := ho.below v2
    replace hB := hB.trans (v2.mono hB.size)
    clear v2
    obtain ⟨k0, k1, k2⟩ := loadS bs
    go_wp2_with fail
    refine (sBand_v s os (-1) Hn G T O c d f _ hs ho (by omega)).mono ?_
    rintro e w3 ⟨rfl, v3⟩
    replace bs := bs.below v3 bs.lt
    replace hs := hs.below v3
    replace ho := ho.below v3
    replace hB := hB.trans (v3.mono hB.size)
    clear v3
    clear k0 k1 k2
    obtain ⟨k0, k1, k2⟩ := loadS bs
    go_wp2_with fail
    refine (sBand_v s os (-1) Hn G T O c d f _ hs ho (by omega)).mono ?_
    rintro e w4 ⟨rfl, v4⟩
    replace bs := bs.below v4 bs.lt
    replace hs := hs.below v4
    replace ho := ho.below v4
    replace hB := hB.trans (v4.mono hB.size)
    clear v4
    clear k0 k1 k2
    go_wp2_with fail
    go_ret
    exact ⟨rfl, hB⟩
  | true =>
    have hg := validO_iff.mp hv
    obtain ⟨n, hn⟩ : ∃ n, n = bandF s os := ⟨_, rfl⟩
    have hnb := band_nonneg hg
    rw [← hn] at hnb
    have Hn := Lib.hid hn
    have hc1 := hg.g.c1
    have hc2 := hg.g.c2
    have hgr4 := hg.g.g2
    have hgr1 := hg.g.g1
    have hol4 : os.length ≤ 4 := by have := hg.ol; omega
    have Hg := Lib.hid hg
    have Hsh := Lib.hid (show n = bandF s (shiftO s os) by rw [shift_band hg, hn])
    clear hn hg hv
    go_wp2_with fail
    generalize w1.alloc (.cells (strC s G T c d) 27) = wb at *
    obtain ⟨gs, hgs⟩ : ∃ gs, gs = w1.heap.size := ⟨_, rfl⟩
    rw [← hgs] at bs hgs0
    simp only [← hgs]
    clear hgs
    have hX := Below.refl wb.heap.size wb
    refine (iBand_v s os n Hn G T O c d f _ (hs.below hX) (ho.below hX) (by omega)).mono ?_
    rintro e w2 ⟨rfl, v2⟩
    replace hX := hX.trans (v2.mono hX.size)
    clear v2
    obtain ⟨k0, k1, k2⟩ := loadS (bs.below hX bs.lt)
    go_wp2_with fail
    refine (sBand_v s os n Hn G T O c d f _ (hs.below hX) (ho.below hX) (by omega)).mono ?_
    rintro e w3 ⟨rfl, v3⟩
    replace hX := hX.trans (v3.mono hX.size)
    clear v3
    clear k0 k1 k2
    obtain ⟨k0, k1, k2⟩ := loadS (bs.below hX bs.lt)
    go_wp2_with fail
    clear k0 k1 k2
    obtain ⟨i0, hi0, hz0, hz1, hz2⟩ := info_parts info_Int
    have hA := OwnL.of_cap (lo := wb.heap.size) fI (Blk.new w3 3 #[]) hX.size rfl (by simp [maxLen])
    replace hX := hX.alloc hX.size (.cells #[] 3)
    go_loopw [6, 7] (fun v6 vi wr => ∃ k : Nat, k ≤ os.length ∧ vi = .int .i64 k ∧ (∃ A1 c1 ys, v6 = .slice A1 ys.length c1 ∧ OwnL fI wr wb.heap.size 3 A1 c1 ys ∧ Hid (ys = mapN k fun i => (ga os i + 1) % s.cy)) ∧ Below wb.heap.size wb wr) (fun _ vi _ => os.length - (intOf vi).toNat)
    case atStart => exact ⟨0, Nat.zero_le _, rfl, ⟨_, _, [], rfl, hA, Lib.hid (by simp [mapN])⟩, hX⟩
    case round =>
      clear hA hX
      obtain ⟨k, hk, rfl, ⟨A1, c1, ys, rfl, hA, hys⟩, hX⟩ := hrel
      have hyl : ys.length ≤ 20 := by rw [hys.out, mapN_length]; omega
      have bs2 := bs.below hX bs.lt
      by_cases hlt2 : k < os.length
      · obtain ⟨bo, oo, rfl, hck⟩ := (ho.below hX).at hlt2
        rw [ga_at hlt2] at hck
        simp only [fI] at hck
        have hob := Hg.out.ob k hlt2
        have Hst := Lib.hid (show (mapN (k + 1) fun i => (ga os i + 1) % s.cy) = (mapN k fun i => (ga os i + 1) % s.cy) ++ [(ga os k + 1) % s.cy] from mapN_succ _ _)
        generalize ga os k = y at *
        have hy1 : 0 ≤ y + 1 := by omega
        have hadd : IntKind.i64.wrap (y + 1) = y + 1 := IntWalk.i64_in _ (by omega)
        have hcz : ¬ s.cy = 0 := by omega
        have htm : (y + 1).tmod s.cy = (y + 1) % s.cy := Int.tmod_eq_emod_of_nonneg hy1
        have hAl := hA.ltb
        have hzX := hX.size
        go_wp2_with fail
        obtain ⟨S, hS⟩ : ∃ S : World → Prop, S = fun x => Blk x gs 27 (strC s G T c d) ∧ x.cell? ⟨bo, oo + k, none⟩ = some (.int .i64 y) := ⟨_, rfl⟩
        have hS1 : ∀ x, S x → Blk x gs 27 (strC s G T c d) := fun x h => by rw [hS] at h; exact h.1
        have hS2 := Held.cell (S := S) (p := ⟨bo, oo + k, none⟩) (v := .int .i64 y) (fun x h => by rw [hS] at h; exact h.2)
        have hS3 : ∀ x, Blk x gs 27 (strC s G T c d) → x.cell? ⟨bo, oo + k, none⟩ = some (.int .i64 y) → S x := fun x h1 h2 => by rw [hS]; exact ⟨h1, h2⟩
        obtain ⟨k0, k1, k2⟩ := heldS hS1
        have HS3 := Lib.hid hS3
        clear hS hS1 hS3
        refine wp_region_mix S [(0, 0), (0, 1), (0, 2), (0, 3), (0, 4), (0, 5), (0, 6), (0, 7), (0, 8), (1, 9), (1, 10), (0, 11)] [] (by kernel_rfl) (by kernel_rfl) (HS3.out _ bs2.drew hck) ?_
        intro hne1
        simp only [mixOps, List.filterMap_cons, List.filterMap_nil, List.getElem?_toArray, List.getElem?_cons_zero, List.getElem?_cons_succ, Option.map_some]
        replace bs2 := bs2.drew
        replace hA := hA.drew
        replace hX := hX.drew
        replace hck : wr.drew.cell? ⟨bo, oo + k, none⟩ = some (.int .i64 y) := hck
        have hzd : wb.heap.size ≤ wr.drew.heap.size := hX.size
        replace hAl : ∀ b, blk A1 = some b → wb.heap.size ≤ b ∧ b < wr.drew.heap.size := hA.ltb
        generalize wr.drew = wd at *
        repeat (refine mix_early (fun K hK => ?_); go_simp; refine hK _ ?_; clear hK K)
        refine mix_late rfl (fun K hK => ?_)
        go_wp2_with fail
        have hck2 := (World.cell?_alloc_lt wd (.cells #[.int .i64 ((y + 1) % s.cy)] 3) ⟨bo, oo + k, none⟩ (World.block_lt_of_cell? _ _ hck)).trans hck
        refine ⟨HS3.out _ (bs2.alloc _) hck2, ?_⟩
        refine mix_late rfl (fun K hK => ?_)
        refine wp_push (.tmp 40) (.tmp 49) 22 rfl i0 _ 8 Try.underlying22 hi0 hz0 hz1 hz2 rfl rfl (hA.alloc (.cells #[.int .i64 ((y + 1) % s.cy)] 3)) wd.heap.size ((y + 1) % s.cy) rfl (cell_new _ _ _) rfl (by omega) (by omega) (by simp; omega) ?_
        intro A3 c3 w5 ho3 hg3 hb3
        have hX5 := below_push hzd hX hAl hg3
        have bs5 := bs.below hX5 bs.lt
        have hck5 : w5.cell? ⟨bo, oo + k, none⟩ = some (.int .i64 y) := hg3.cell hck2 (fun e => by
          have h1 := (hAl bo e.symm).1
          obtain ⟨b9, o9, e9, h9⟩ := ho.at hlt2
          have h2 := World.block_lt_of_cell? _ _ h9
          injection e9 with e9
          injection e9 with e9
          subst e9
          simp at h2
          omega)
        refine hK _ _ ⟨HS3.out _ bs5 hck5, ?_⟩
        clear hck hck2 hS2 hA hX hg3 hb3 hAl
        repeat (refine mix_early (fun K hK => ?_); go_simp; refine hK _ ?_; clear hK K)
        refine mix_nil ?_
        simp only [tailT, List.filterMap_nil]
        refine wpLateC_nil (NoPanic.normal ?_)
        clear k0 k1 k2 hck5
        go_wp2_with fail
        go_roundw
        case rel => exact ⟨k + 1, by omega, by go_num, ⟨A3, c3, ys ++ [(y + 1) % s.cy], by simp, ho3, Lib.hid (by rw [Hst.out, hys.out])⟩, hX5⟩
        case measure => simp [intOf]; omega
      · obtain rfl : k = os.length := by omega
        obtain ⟨k0, k1, k2⟩ := loadS bs2
        go_wp2_with fail
        refine (iBand_v s ys n (Lib.hid (by rw [hys.out]; exact Hsh.out)) G T A1 c d c1 _ (hs.below hX) hA.rd (by omega)).mono ?_
        rintro e w9 ⟨rfl, v9⟩
        replace hX := hX.trans (v9.mono hX.size)
        clear v9 k0 k1 k2
        go_wp2_with fail
        go_ret
        exact ⟨rfl, hB.trans (hX.mono hB.size)⟩

set_option maxRecDepth 100000 in
theorem lifted (os : Os) (started : os.Started) (H : Type) (enc : TypeId × Value → H) :
    ReturnsInHanded {} Try.checked os 10 .any (Rows.fnBandOfShiftSpec.pre6 enc Try.prog Try.f10 Rows.fnBandOfShiftRow.domain false) (Rows.fnBandOfShiftSpec.post enc Try.prog Try.f10 false true false false) := by
  refine returnsInHanded_of_change (C := Try.checked) own started (by kernel_rfl) Try.func10
    (ChangeSpec.witness6 (enc := enc) (C := Try.checked) false ⟨#[], #[.slice none 0 0], []⟩ 8 (by kernel_rfl) (by kernel_rfl) (by kernel_rfl) (by kernel_rfl)) ?_
  intro W base args ds gs before hval0 hW hcnd _
  have hval : ∀ (j : Nat) t v, Try.f10.params[j]? = some t → args[j]? = some v → Value.okWide Try.prog W .any base t v := hval0
  have hW' := hW
  obtain ⟨p, q, hA0, hV, rfl, hfz, hnd⟩ := hW
  have hA : DataW.TrodAll enc Try.prog W 0 (fun _ => true) true Try.f10.params.toList args.toList ds p := hA0
  rw [Try.params10] at hA hval
  obtain ⟨v0, vs0, d0, ds0, p0, q0, hargs, rfl, rfl, h0, r0⟩ := trodAll_cons hA
  obtain ⟨rfl, rfl, rfl⟩ := trodAll_nil r0
  obtain rfl : args = #[v0] := by cases args; simp_all
  obtain ⟨rfl, rfl⟩ := trodVars_none hV
  have k0 := h0
  have lt0 : ∀ x ∈ p0, x.block < W.heap.size := by obtain ⟨m, hm⟩ := k0; exact DataW.trod_lt m _ _ _ hm
  obtain ⟨a0, len0, cap0, rfl⟩ := okWide_slice Try.underlying39 (hval 0 39 v0 rfl rfl)
  obtain ⟨w0, hc0⟩ := open_bytes Try.underlying39 Try.underlying5 (by kernel_rfl) h0
  clear hA0 hval0
  refine (walk a0 len0 cap0 W w0 hc0).mono fun e W' ⟨he, bel⟩ => ?_
  subst he
  exact ⟨_, rfl, _, _, _, [], _, [], hW', trodAll_mk1 (shut_bool Try.underlying4 _), (trodAll_cons_mk (Below.trod laidOut (by kernel_rfl) (of_decide_eq_true (by kernel_rfl)) k0 bel lt0) trodAll_mk0), rfl, bel.frame _, fun h => by cases h⟩

theorem over : Rows.fnBandOfShiftRow.holds Try.pinned (OpenSpec.ofChange Rows.fnBandOfShiftSpec) :=
  OpenClaim.holds_of_wide 10 Try.f10 rfl rfl rfl rfl rfl rfl rfl ⟨rfl, rfl, rfl, rfl, rfl⟩ rfl rfl rfl rfl rfl (by kernel_rfl) Try.func10 (by kernel_rfl)
    (of_decide_eq_true (by kernel_rfl)) (by unfold Func.isWrapper; first | (rw [if_pos (by decide +kernel)]; kernel_rfl) | (rw [if_neg (by decide +kernel)]; exact ⟨rfl, rfl⟩))
    (fun os started H enc _ => lifted os started H enc)

theorem proved : Rows.FnBandOfShiftSaid := over
end Go.Proofs.Ytmnapeefclkldaa.FnBandOfShift
