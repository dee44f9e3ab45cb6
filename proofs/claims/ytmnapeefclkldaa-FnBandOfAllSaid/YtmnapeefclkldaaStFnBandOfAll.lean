/-
  The statement FnBandOfAll: green everywhere lets everybody pass.
-/
import Derived.Test.YtmnapeefclkldaaStFn
namespace Go.Proofs.Ytmnapeefclkldaa.FnBandOfAll
open Go.RowKit Go.ChangeShapes Go.WideShapes Go.ChangeAt Go.Proofs.Ytmnapeefclkldaa
set_option linter.unusedVariables false

set_option maxHeartbeats 6400000 in
theorem walk (A : Option Addr) (len cap : Nat) (w : World) (h : Bytes w A len) (hc : len ≤ cap) :
    Calls Try.prog 8 #[.slice A len cap] w fun e w' => e = .returned (.bool true) ∧ Below w.heap.size w w' := by
  by_cases hl1 : 1048576 < len
  · go_enter Try.func8, Try.ntmps8
    go_wp2_with fail
    go_ret
    exact ⟨rfl, Below.refl _ _⟩
  go_enter Try.func8, Try.ntmps8
  go_wp2_with fail
  refine (drawB_any _ A len cap h hc).mono ?_
  rintro e w1 ⟨s, os, G, T, O, c, d, f, rfl, ⟨hs, lg, lt, nG, nT, cG, cT⟩, ho, nO, cO, lo, v1⟩
  have hB := v1
  have bs := Blk.new w1 27 (strC s G T c d)
  replace hs := hs.alloc (.cells (strC s G T c d) 27)
  replace ho := ho.alloc (.cells (strC s G T c d) 27)
  replace hB := hB.alloc hB.size (.cells (strC s G T c d) 27)
  have hgs0 : w.heap.size ≤ w1.heap.size := v1.size
  clear v1
  clear h
  cases hv : validO s os with
  | false =>
    have Hn := Lib.hid (show (-1 : Int) = bandF s os by simp [bandF, hv])
    clear hv
    go_wp2_with fail
    generalize w1.alloc (.cells (strC s G T c d) 27) = wb at *
    obtain ⟨gs, hgs⟩ : ∃ gs, gs = w1.heap.size := ⟨_, rfl⟩
    rw [← hgs] at bs hgs0
    simp only [← hgs]
    clear hgs
    refine (iBand_v s os (-1) Hn G T O c d f _ hs ho (by omega)).mono ?_
    rintro e w2 ⟨rfl, v2⟩
    replace bs := bs.below v2 bs.lt
    replace hs := hs.below v2
    replace ho := ho.below v2
    replace hB := hB.trans (v2.mono hB.size)
    clear v2
    obtain ⟨k0, k1, k2⟩ := loadS bs
    go_wp2_with fail
    refine (sBand_v s os (-1) Hn G T O c d f _ hs ho (by omega)).mono ?_
    rintro e w3 ⟨rfl, v3⟩
    replace bs := bs.below v3 bs.lt
    replace hs := hs.below v3
    replace ho := ho.below v3
    replace hB := hB.trans (v3.mono hB.size)
    clear v3
    clear k0 k1 k2
    obtain ⟨k0, k1, k2⟩ := loadS bs
    go_wp2_with fail
    refine (sBand_v s os (-1) Hn G T O c d f _ hs ho (by omega)).mono ?_
    rintro e w4 ⟨rfl, v4⟩
    replace bs := bs.below v4 bs.lt
    replace hs := hs.below v4
    replace ho := ho.below v4
    replace hB := hB.trans (v4.mono hB.size)
    clear v4
    clear k0 k1 k2
    go_wp2_with fail
    go_ret
    exact ⟨rfl, hB⟩
  | true =>
    have hg := validO_iff.mp hv
    obtain ⟨n, hn⟩ : ∃ n, n = bandF s os := ⟨_, rfl⟩
    have hnb := band_nonneg hg
    rw [← hn] at hnb
    have Hn := Lib.hid hn
    have hc1 := hg.g.c1
    have hc2 := hg.g.c2
    have hgr4 := hg.g.g2
    have hgr1 := hg.g.g1
    have hol4 : os.length ≤ 4 := by have := hg.ol; omega
    have Hg := Lib.hid hg
    have Hall := Lib.hid (show s.cy = bandF (allS s) os from (all_band hg).symm)
    have Hnone := Lib.hid (fun (j : Nat) (hj : j < s.gr.length) => show 0 = bandF (noneS s j) os from (none_band hg hj).symm)
    clear hn hg hv
    go_wp2_with fail
    generalize w1.alloc (.cells (strC s G T c d) 27) = wb at *
    obtain ⟨gs, hgs⟩ : ∃ gs, gs = w1.heap.size := ⟨_, rfl⟩
    rw [← hgs] at bs hgs0
    simp only [← hgs]
    clear hgs
    have hX := Below.refl wb.heap.size wb
    refine (iBand_v s os n Hn G T O c d f _ (hs.below hX) (ho.below hX) (by omega)).mono ?_
    rintro e w2 ⟨rfl, v2⟩
    replace hX := hX.trans (v2.mono hX.size)
    clear v2
    obtain ⟨k0, k1, k2⟩ := loadS (bs.below hX bs.lt)
    go_wp2_with fail
    refine (sBand_v s os n Hn G T O c d f _ (hs.below hX) (ho.below hX) (by omega)).mono ?_
    rintro e w3 ⟨rfl, v3⟩
    replace hX := hX.trans (v3.mono hX.size)
    clear v3
    clear k0 k1 k2
    obtain ⟨k0, k1, k2⟩ := loadS (bs.below hX bs.lt)
    have cells2 := (w3.alloc (.cells #[] 3))
    clear cells2
    go_wp2_with fail
    clear k0 k1 k2
    obtain ⟨i0, hi0, hz0, hz1, hz2⟩ := info_parts info_Int
    have hA := ((OwnL.of_cap (lo := wb.heap.size) fI (Blk.new w3 3 #[]) hX.size rfl (by simp [maxLen])).alloc (.cells #[] 3)).o
    have hC := (OwnL.of_cap (lo := wb.heap.size) fI (Blk.new (w3.alloc (.cells #[] 3)) 3 #[]) (by have := hX.size; simp; omega) rfl (by simp [maxLen])).o
    have hAC : Sep (some ⟨w3.heap.size, 0, none⟩) (some ⟨(w3.alloc (.cells #[] 3)).heap.size, 0, none⟩) := by intro b h1 h2; simp at h1 h2; omega
    replace hX := (hX.alloc hX.size (.cells #[] 3)).alloc (by have := hX.size; simp; omega) (.cells #[] 3)
    simp only [World.size_alloc] at hA hC hAC
    go_loopw [6, 7, 8] (fun v6 v7 vi wr => ∃ k : Nat, k ≤ s.gr.length ∧ vi = .int .i64 k ∧ (∃ A1 c1 xs B1 d1 ys, v6 = .slice A1 xs.length c1 ∧ v7 = .slice B1 ys.length d1 ∧ OwnO fI wr wb.heap.size 3 A1 c1 xs ∧ OwnO fI wr wb.heap.size 3 B1 d1 ys ∧ Sep A1 B1 ∧ Hid (xs = List.replicate k s.cy) ∧ Hid (ys = s.gr.take k)) ∧ Below wb.heap.size wb wr) (fun _ _ vi _ => s.gr.length - (intOf vi).toNat)
    case atStart => exact ⟨0, Nat.zero_le _, rfl, ⟨_, _, [], _, _, [], rfl, rfl, hA, hC, hAC, Lib.hid rfl, Lib.hid rfl⟩, hX⟩
    case round =>
      clear hA hC hAC hX
      obtain ⟨k, hk, rfl, ⟨A1, c1, xs, B1, d1, ys, rfl, rfl, hA, hC, hAC, hxs, hys⟩, hX⟩ := hrel
      have hxl : xs.length ≤ 20 := by rw [hxs.out]; simp; omega
      have hyl : ys.length ≤ 20 := by rw [hys.out]; simp; omega
      have hzd := hX.size
      obtain ⟨k0, k1, k2⟩ := loadS (bs.below hX bs.lt)
      have hAl := hA.lt
      have hCl := hC.lt
      by_cases hlt2 : k < s.gr.length
      · obtain ⟨bo, oo, rfl, hc0⟩ := hs.hg.at hlt2
        have hst := Lib.hid (show s.gr.take (k + 1) = s.gr.take k ++ [s.gr[k]] from List.take_succ_eq_append_getElem hlt2)
        rw [ga_at hlt2] at hc0 hst
        simp only [fI] at hc0
        generalize ga s.gr k = y at *
        have hcW := Lib.hid (fun (W : World) (h : Below wb.heap.size wb W) => show W.cell? ⟨bo, oo + k, none⟩ = some (.int .i64 y) from (h.cell (World.block_lt_of_cell? wb _ hc0)).trans hc0)
        clear hc0
        go_wp2_with (first | (at_builtin; refine wpList_pushO rfl (.tmp 43) (.tmp 46) 22 rfl i0 _ 8 Try.underlying22 hi0 hz0 hz1 hz2 rfl rfl (hA.alloc (.cells #[.int .i64 s.cy] 3)) wr.heap.size s.cy rfl (cell_new _ _ _) rfl (by omega) (by omega) (by simp; omega) ?_; intro A3 c3 w5 ho3 hg3 hb3; have hX5 := below_push hzd hX (fun b hb => hAl b hb) hg3; have hC3 := (hC.alloc (.cells #[.int .i64 s.cy] 3)).grown hg3 hAC.or; have hAC3 := hAC.push (n := wr.heap.size) (fun b hb => (hCl b hb).2) (hb3.imp id fun h b hb => by have := h b hb; simp at this; omega); have hck := hcW.out _ hX5; obtain ⟨p0, p1, p2⟩ := loadS (bs.below hX5 bs.lt); have hz5 := hX5.size; have hC3l := hC3.lt; clear k0 k1 k2) | (at_builtin; refine wpList_pushO rfl (.tmp 48) (.tmp 54) 22 rfl i0 _ 8 Try.underlying22 hi0 hz0 hz1 hz2 rfl rfl (hC3.alloc (.cells #[.int .i64 y] 3)) w5.heap.size y rfl (cell_new _ _ _) rfl (by omega) (by omega) (by simp; omega) ?_; intro B3 d3 w6 ho4 hg4 hb4))
        have lA := ho3.lt
        have hX6 := below_push hz5 hX5 (fun b hb => hC3l b hb) hg4
        have hA4 := (ho3.alloc (.cells #[.int .i64 y] 3)).grown hg4 hAC3.symm.or
        have hAC4 := (hAC3.symm.push (n := w5.heap.size) (fun b hb => (lA b hb).2) (hb4.imp id fun h b hb => by have := h b hb; simp at this; omega)).symm
        go_roundw
        case rel => exact ⟨k + 1, by omega, by go_num, ⟨A3, c3, xs ++ [s.cy], B3, d3, ys ++ [y], by simp, by simp, hA4, ho4, hAC4, Lib.hid (by rw [hxs.out, List.replicate_succ']), Lib.hid (by rw [hys.out]; exact hst.out.symm)⟩, hX6⟩
        case measure => simp [intOf]; omega
      · obtain rfl : k = s.gr.length := by omega
        have hyE := Lib.hid (show ys = s.gr by rw [hys.out, List.take_length])
        have hxE := Lib.hid (show xs = List.replicate s.gr.length s.cy from hxs.out)
        have hyl1 : 1 ≤ ys.length := by rw [hyE.out]; exact hgr1
        have hj1 := Nat.mod_lt len (show ys.length > 0 by omega)
        have hjm : ((len : Nat) : Int) % ((ys.length : Nat) : Int) = ((len % ys.length : Nat) : Int) := (Int.natCast_emod len ys.length).symm
        generalize len % ys.length = j at *
        obtain ⟨g, o, rfl, hcj, hfj, hg0, hg1⟩ := hC.at hj1
        have hA2 := hA.grown (only_set (w := wr) (g := g) (k := o + j) (.int .i64 0)) hAC.symm.or
        have hC2 := hC.set (x := (0 : Int)) hj1
        have hX2 := hX.setCell (p := ⟨g, o + j, none⟩) hg0 (.int .i64 0)
        have hyS := Lib.hid (show 0 = bandF ⟨s.cy, ys.set j 0, s.tr⟩ os by rw [hyE.out]; exact Hnone.out j (by rw [← hyE.out]; exact hj1))
        have hxS := Lib.hid (show s.cy = bandF ⟨s.cy, xs, s.tr⟩ os by rw [hxE.out]; exact Hall.out)
        have hyl2 : Hid ((ys.set j 0).length = ys.length) := Lib.hid (by simp)
        have hyz : ¬ ((ys.length : Nat) : Int) = 0 := by omega
        clear hA hC hX hAC hAl hCl hxs hys Hnone Hall hxE hyE
        go_wp2_with fail
        simp only [fI] at hA2 hC2 hX2
        generalize wr.setCell ⟨g, o + j, none⟩ (.int .i64 0) = w5 at *
        have hB5 := hB.trans (hX2.mono hB.size)
        have hs5 := hs.below hX2
        have ho5 := ho.below hX2
        have hrA := hA2.rd
        have hrC := hC2.rd
        have bs5 := bs.below hX2 bs.lt
        clear k0 k1 k2 hA2 hC2 hs ho hB bs hcj hfj hX2
        generalize ys.set j 0 = zs at *
        obtain ⟨q0, q1, q2⟩ := loadS bs5
        have k0 := Grow.cell q0
        have k1 := Grow.cell q1
        have k2 := Grow.cell q2
        clear q0 q1 q2 bs5
        rw [← hyl2.out]
        have hc1' := fun W (h1 : Below w5.heap.size w5 W) => iBand_v ⟨s.cy, xs, s.tr⟩ os s.cy hxS A1 T O c1 d f W ⟨hrA.below h1, hs5.ht.below h1, by simp; omega, hs5.nt⟩ (ho5.below h1) (by omega)
        have hc2' := fun W (h1 : Below w5.heap.size w5 W) => iBand_v ⟨s.cy, zs, s.tr⟩ os 0 hyS (some ⟨g, o, none⟩) T O d1 d f W ⟨hrC.below h1, hs5.ht.below h1, by rw [hyl2.out]; omega, hs5.nt⟩ (ho5.below h1) (by omega)
        refine wp_region_grow _ (by kernel_rfl) (by kernel_rfl) (Below.refl _ _) ?_
        repeat (go_big_quiet_step (fail))
        go_big_quiet_step ((go_at_call 28; exact grow_of (hc1' _ (Grow.h _))))
        repeat (go_big_quiet_step (fail))
        go_big_quiet_step ((go_at_call 28; exact grow_of (hc2' _ (Grow.h _))))
        repeat (go_big_quiet_step (fail))
        refine wpQuiet_nil ?_
        rintro _ ⟨z, rfl⟩
        go_wp2_with fail
        go_ret
        exact ⟨rfl, hB5.trans (z.h.mono hB5.size)⟩

set_option maxRecDepth 100000 in
theorem lifted (os : Os) (started : os.Started) (H : Type) (enc : TypeId × Value → H) :
    ReturnsInHanded {} Try.checked os 8 .any (Rows.fnBandOfAllSpec.pre6 enc Try.prog Try.f8 Rows.fnBandOfAllRow.domain false) (Rows.fnBandOfAllSpec.post enc Try.prog Try.f8 false true false false) := by
  refine returnsInHanded_of_change (C := Try.checked) own started (by kernel_rfl) Try.func8
    (ChangeSpec.witness6 (enc := enc) (C := Try.checked) false ⟨#[], #[.slice none 0 0], []⟩ 8 (by kernel_rfl) (by kernel_rfl) (by kernel_rfl) (by kernel_rfl)) ?_
  intro W base args ds gs before hval0 hW hcnd _
  have hval : ∀ (j : Nat) t v, Try.f8.params[j]? = some t → args[j]? = some v → Value.okWide Try.prog W .any base t v := hval0
  have hW' := hW
  obtain ⟨p, q, hA0, hV, rfl, hfz, hnd⟩ := hW
  have hA : DataW.TrodAll enc Try.prog W 0 (fun _ => true) true Try.f8.params.toList args.toList ds p := hA0
  rw [Try.params8] at hA hval
  obtain ⟨v0, vs0, d0, ds0, p0, q0, hargs, rfl, rfl, h0, r0⟩ := trodAll_cons hA
  obtain ⟨rfl, rfl, rfl⟩ := trodAll_nil r0
  obtain rfl : args = #[v0] := by cases args; simp_all
  obtain ⟨rfl, rfl⟩ := trodVars_none hV
  have k0 := h0
  have lt0 : ∀ x ∈ p0, x.block < W.heap.size := by obtain ⟨m, hm⟩ := k0; exact DataW.trod_lt m _ _ _ hm
  obtain ⟨a0, len0, cap0, rfl⟩ := okWide_slice Try.underlying39 (hval 0 39 v0 rfl rfl)
  obtain ⟨w0, hc0⟩ := open_bytes Try.underlying39 Try.underlying5 (by kernel_rfl) h0
  clear hA0 hval0
  refine (walk a0 len0 cap0 W w0 hc0).mono fun e W' ⟨he, bel⟩ => ?_
  subst he
  exact ⟨_, rfl, _, _, _, [], _, [], hW', trodAll_mk1 (shut_bool Try.underlying4 _), (trodAll_cons_mk (Below.trod laidOut (by kernel_rfl) (of_decide_eq_true (by kernel_rfl)) k0 bel lt0) trodAll_mk0), rfl, bel.frame _, fun h => by cases h⟩

theorem over : Rows.fnBandOfAllRow.holds Try.pinned (OpenSpec.ofChange Rows.fnBandOfAllSpec) :=
  OpenClaim.holds_of_wide 8 Try.f8 rfl rfl rfl rfl rfl rfl rfl ⟨rfl, rfl, rfl, rfl, rfl⟩ rfl rfl rfl rfl rfl (by kernel_rfl) Try.func8 (by kernel_rfl)
    (of_decide_eq_true (by kernel_rfl)) (by unfold Func.isWrapper; first | (rw [if_pos (by decide +kernel)]; kernel_rfl) | (rw [if_neg (by decide +kernel)]; exact ⟨rfl, rfl⟩))
    (fun os started H enc _ => lifted os started H enc)

theorem proved : Rows.FnBandOfAllSaid := over
end Go.Proofs.Ytmnapeefclkldaa.FnBandOfAll
