/-
  The statement FnPlanHistory: histories are seconds.
-/
import Derived.Test.YtcckipckgnkieaaPlDrP
import Derived.Test.YtcckipckgnkieaaPlImp8
import Derived.Test.YtcckipckgnkieaaPlLaw
import Derived.Test.YtcckipckgnkieaaOpen
namespace Go.Proofs.Ytcckipckgnkieaa.FnPlanHistory
open Go.RowKit Go.ChangeShapes Go.WideShapes Go.ChangeAt Go.Proofs.Ytcckipckgnkieaa
set_option linter.unusedVariables false

theorem half_take {p : Pl} {f : Int} {m : Nat} (hg : GoodP p) (hm : m ≤ 150) (hf : 0 ≤ f ∧ f ≤ 10000 - (m : Int)) : planF p f ((m / 2 : Nat) : Int) = (planL p f m).take (m / 2) := by
  rw [planF_yes (by rw [show validP p = true from dec_iff.mpr hg, span_iff.mpr (by omega)]; rfl), Int.toNat_natCast]
  exact plan_take p f (by omega)

set_option maxRecDepth 100000 in
set_option maxHeartbeats 1600000 in
theorem walk (A : Option Addr) (len cap : Nat) (w : World) (h : Bytes w A len) (hc : len ≤ cap) :
    Calls Try.prog 3 #[.slice A len cap] w fun e w' => e = .returned (.bool true) ∧ Below w.heap.size w w' := by
  by_cases hl1 : 1048576 < len
  · go_enter Try.func3, Try.ntmps3
    go_wp2_with fail
    go_ret
    exact ⟨rfl, Below.refl _ _⟩
  go_enter Try.func3, Try.ntmps3
  go_wp2_with fail
  refine (drawPH_any _ A len cap h hc).mono ?_
  rintro e w1 ⟨p, T, c, S, d, f, n, rfl, hr, hs, hsd, hfb, hnb, hB⟩
  obtain ⟨hBW, hb0, hb1, -⟩ := boxP_at w1 p T c S d
  have hzB := hB.size
  have Hr := Lib.hid (hr.below hBW)
  have Hs := Lib.hid (show SmP p 1000000000 from ⟨by have := hs.t; omega, fun k hk => by have := hs.r k hk; omega, by have := hs.s; omega, fun k hk => by have := hs.f k hk; omega⟩)
  have Hsd := Lib.hid hsd
  have hB2 := hB.trans (hBW.mono hzB)
  have hzW := hB2.size
  obtain ⟨l, hl⟩ : ∃ l, l = planF p f n := ⟨_, rfl⟩
  have hlsm := planF_sm p f n
  clear h hs hsd hr hB hBW
  go_wp2_with fail
  generalize w1.alloc (.cells #[.slice T p.tb.length c, .slice S p.sg.length d] 26) = W at *
  have hi := fun y (hy : Below W.heap.size W y) => iHist_any p f n T S c d y (Hr.out.below hy) Hs.out Hsd.out
  have hi2 := fun k y (hy : Below W.heap.size W y) => iHist_any p f k T S c d y (Hr.out.below hy) Hs.out Hsd.out
  have hga := fun s y (hy : Below W.heap.size W y) => iGrnAt_any p s T S c d y (Hr.out.below hy) Hs.out Hsd.out
  have hsp := fun y (hy : Below W.heap.size W y) => sHist_any p f n T S c d y (Hr.out.below hy) Hs.out
  have Hl := Lib.hid hl
  rw [← hl] at hi hsp hlsm
  have hll := hlsm.1
  have Hlr := Lib.hid (fun k (hk : k < l.length) => show (gm l k).length ≤ 2000000 by have := hlsm.2 k hk; omega)
  have Hi := Lib.hid hi
  have Hi2 := Lib.hid hi2
  have Hga := Lib.hid hga
  have Hsp := Lib.hid hsp
  clear hl hi hsp hlsm hi2 hga
  refine (Hi.out W (Below.refl _ _)).mono ?_
  rintro e w2 ⟨D, d2, rfl, hL, v2⟩
  have hL2 := hL.rd
  have hcap : l.length ≤ d2 := (OwnW.of hL).cap
  have V2 := v2
  have c0 := (V2.cell (World.block_lt_of_cell? W _ hb0)).trans hb0
  have c1 := (V2.cell (World.block_lt_of_cell? W _ hb1)).trans hb1
  clear hL v2
  go_wp2_with fail
  refine (Hsp.out w2 V2).mono ?_
  rintro e w3 ⟨D3, d3, rfl, hL', v3⟩
  have hL3 := hL'.rd
  replace hL2 := hL2.below v3
  have V3 := V2.trans (v3.mono V2.size)
  clear hL' v3 V2 c0 c1
  go_wp2_with fail
  refine (equalLists_same l D D3 d2 d3 _ hL2 hL3 (by omega) Hlr.out).mono ?_
  rintro e w4 ⟨rfl, v4⟩
  replace hL2 := hL2.below v4
  have V4 := V3.trans (v4.mono V3.size)
  have c0 := (V4.cell (World.block_lt_of_cell? W _ hb0)).trans hb0
  have c1 := (V4.cell (World.block_lt_of_cell? W _ hb1)).trans hb1
  clear v4 V3 hL3
  by_cases hl0 : l.length = 0
  · have hbl : (((l.length : Nat) : Int) == 0) = true := by simp [hl0]
    clear hl0
    go_wp2_with fail
    refine (Hsp.out w4 V4).mono ?_
    rintro e w5 ⟨D5, d5, rfl, hL', v5⟩
    have hL5 := hL'.rd
    replace hL2 := hL2.below v5
    have V5 := V4.trans (v5.mono V4.size)
    clear hL' v5 V4 c0 c1
    go_wp2_with fail
    refine (equalLists_same l D D5 d2 d5 _ hL2 hL5 (by omega) Hlr.out).mono ?_
    rintro e w6 ⟨rfl, v6⟩
    have V6 := V5.trans (v6.mono V5.size)
    clear v6 V5
    go_wp2_with fail
    go_ret
    exact ⟨rfl, hB2.trans (V6.mono hzW)⟩
  · have hbl : (((l.length : Nat) : Int) == 0) = false := beq_eq_false_iff_ne.mpr (by omega)
    obtain ⟨hg, hn0, hn150, hf0, hf1, hpl⟩ := planF_parts (p := p) (f := f) (c := n) (by rw [← Hl.out]; exact hl0)
    obtain ⟨m, rfl⟩ := Int.eq_ofNat_of_zero_le (show 0 ≤ n by omega)
    rw [Int.toNat_natCast] at hpl
    have Hpl := Lib.hid (Hl.out.trans hpl)
    have Hlen := Lib.hid (show l.length = m by rw [Hpl.out, planL_length])
    have Hg := Lib.hid hg
    have hl00 : 0 < l.length := by omega
    have hmb : 0 < m ∧ m ≤ 150 := by omega
    have Hhalf := Lib.hid (half_take hg hmb.2 ⟨hf0, hf1⟩)
    obtain ⟨bD, oD, -, -, rfl, -, -⟩ := rowAt hL2 hl00
    have HL2 := Lib.hid hL2
    have V5 := Below.refl w4.heap.size w4
    clear hl0 hg hpl c0 c1 hL2
    rw [Hlen.out] at hll hcap hbl ⊢
    go_wp2_with fail
    go_loopw [7] (fun vi wr => ∃ k : Nat, k ≤ m ∧ vi = .int .i64 k ∧ Below w4.heap.size w4 wr) (fun vi _ => m - (intOf vi).toNat)
    case atStart => exact ⟨0, Nat.zero_le _, rfl, V5⟩
    case round =>
      clear V5
      obtain ⟨k, hk, rfl, hX⟩ := hrel
      have V := V4.trans (hX.mono V4.size)
      have hLr := HL2.out.below hX
      by_cases hlt : k < m
      · obtain ⟨b, o, Ak, ck, e', hck, hrk⟩ := rowAt hLr (show k < l.length by rw [Hlen.out]; exact hlt)
        obtain ⟨rfl, rfl⟩ : bD = b ∧ oD = o := by simpa using e'
        have hgk := Lib.hid (show grnAt p (f + (k : Int)) = gm l k by
          rw [grnAt_yes Hg.out (by omega), Hpl.out, planL, gm_mapN hlt])
        have hkl := Hlr.out k (by rw [Hlen.out]; exact hlt)
        have hcg := fun y hy => Hga.out (f + (k : Int)) y hy
        rw [hgk.out] at hcg
        have heq := fun B cB y (h1 : RdL fI y B (gm l k)) (h2 : RdL fI y Ak (gm l k)) => equalInts_any (gm l k) (gm l k) B Ak cB ck y h1 h2 hkl hkl
        rw [decide_eq_true rfl] at heq
        generalize gm l k = xs at *
        obtain ⟨S0, hS⟩ : ∃ S0 : World → Prop, S0 = fun y => Below W.heap.size W y ∧ y.cell? ⟨bD, oD + k, none⟩ = some (.slice Ak xs.length ck) := ⟨_, rfl⟩
        have hS1 : ∀ y, S0 y → Below W.heap.size W y ∧ y.cell? ⟨bD, oD + k, none⟩ = some (.slice Ak xs.length ck) := fun y h => by rw [hS] at h; exact h
        have k0 : ∀ y : Held S0, y.x.cell? ⟨w1.heap.size, 0, none⟩ = some (.slice T p.tb.length c) := fun y => ((hS1 y.x y.h).1.cell (World.block_lt_of_cell? W _ hb0)).trans hb0
        have k1 : ∀ y : Held S0, y.x.cell? ⟨w1.heap.size, 1, none⟩ = some (.slice S p.sg.length d) := fun y => ((hS1 y.x y.h).1.cell (World.block_lt_of_cell? W _ hb1)).trans hb1
        have k2 : ∀ y : Held S0, y.x.cell? ⟨bD, oD + k, none⟩ = some (.slice Ak xs.length ck) := fun y => (hS1 y.x y.h).2
        have hS3 : ∀ y, Below W.heap.size W y → y.cell? ⟨bD, oD + k, none⟩ = some (.slice Ak xs.length ck) → S0 y := fun y h1 h2 => by rw [hS]; exact ⟨h1, h2⟩
        have HS3 := Lib.hid hS3
        have hw0 : IntKind.i64.wrap (f + (k : Int)) = f + (k : Int) := by simp [IntKind.wrap, IntKind.bits, IntKind.signed]; omega
        have hkm : (k : Int) < (m : Int) := by omega
        clear hS hS1 hS3 e'
        go_wp2_with fail
        refine wp_region_mix S0 [(0, 0), (0, 1), (0, 2), (0, 3), (0, 5), (0, 6), (0, 7), (0, 8), (1, 4), (1, 9), (0, 10)] [] (by kernel_rfl) (by kernel_rfl) (HS3.out _ V.drew hck) ?_
        intro hne1
        simp only [mixOps, List.filterMap_cons, List.filterMap_nil, List.getElem?_toArray, List.getElem?_cons_zero, List.getElem?_cons_succ, Option.map_some]
        have Vd := V.drew
        have Xd := hX.drew
        have hrd := hrk.below (Below.refl _ _).drew
        have hckd : wr.drew.cell? ⟨bD, oD + k, none⟩ = some (.slice Ak xs.length ck) := hck
        clear V hX hrk hck hLr
        generalize wr.drew = wd at *
        repeat (refine mix_early (fun K hK => ?_); go_simp; refine hK _ ?_; clear hK K)
        refine mix_late rfl (fun K hK => ?_)
        go_wp2_with fail
        refine (hcg wd Vd).mono ?_
        rintro e w5 ⟨B5, c5, rfl, ho5, v5⟩
        have V5 := Vd.trans (v5.mono Vd.size)
        have X5 := Xd.trans (v5.mono Xd.size)
        have hc5 := (v5.cell (World.block_lt_of_cell? wd _ hckd)).trans hckd
        have hr5 := hrd.below v5
        clear Vd Xd v5 hcg hrd hckd
        go_wp2_with fail
        refine ⟨HS3.out _ V5 hc5, ?_⟩
        repeat (refine mix_early (fun K hK => ?_); go_simp; refine hK _ ?_; clear hK K)
        refine mix_late rfl (fun K hK => ?_)
        go_wp2_with fail
        refine (heq B5 c5 w5 ho5.rd hr5).mono ?_
        rintro e w6 ⟨rfl, v6⟩
        have V6 := V5.trans (v6.mono V5.size)
        have X6 := X5.trans (v6.mono X5.size)
        have hc6 := (v6.cell (World.block_lt_of_cell? w5 _ hc5)).trans hc5
        clear V5 X5 v6 heq hr5 hc5 ho5
        go_wp2_with fail
        refine ⟨HS3.out _ V6 hc6, ?_⟩
        repeat (refine mix_early (fun K hK => ?_); go_simp; refine hK _ ?_; clear hK K)
        refine mix_nil ?_
        simp only [tailT, List.filterMap_nil]
        refine wpLateC_nil (NoPanic.normal ?_)
        clear k0 k1 k2 hne1
        go_wp2_with fail
        go_roundw
        case rel => first | exact ⟨k + 1, by omega, by go_num, X6⟩ | ((repeat apply Exists.intro); exact ⟨⟨k + 1, by omega, by go_num, X6⟩, rfl⟩)
        case measure => simp [intOf]; omega
      · obtain rfl : k = m := by omega
        have hb3 : (((k : Nat) : Int) == ((k : Nat) : Int)) = true := beq_self_eq_true _
        obtain ⟨q, hq⟩ : ∃ q, q = l.take (k / 2) := ⟨_, rfl⟩
        have Hq := Lib.hid (show q.length = k / 2 by rw [hq, List.length_take, Hlen.out]; omega)
        have Hqr := Lib.hid (show ∀ i, i < q.length → (gm q i).length ≤ 2000000 by rw [hq]; exact sm_take Hlr.out)
        have hQr : RdSS fI wr (some ⟨bD, oD, none⟩) q := by rw [hq]; exact hLr.take _
        have hqe : planF p f ((k / 2 : Nat) : Int) = q := by rw [hq, Hhalf.out, Hpl.out]
        have hcg := fun y hy => Hi2.out ((k / 2 : Nat) : Int) y hy
        rw [hqe] at hcg
        have heq := fun B cB y (h1 : RdSS fI y B q) (h2 : RdSS fI y (some ⟨bD, oD, none⟩) q) => equalLists_same q B (some ⟨bD, oD, none⟩) cB d2 y h1 h2 (by have := Hq.out; omega) Hqr.out
        rw [Hq.out] at heq
        have hdv : ((k : Nat) : Int).tdiv 2 = ((k / 2 : Nat) : Int) := rfl
        have hk2 : ((k / 2 : Nat) : Int) ≤ (d2 : Int) := by omega
        have hk3 : k / 2 ≤ d2 := by omega
        have hk4 : k / 2 ≤ 150 := by omega
        have hww : IntKind.i64.wrap (((k / 2 : Nat)) : Int) = ((k / 2 : Nat) : Int) := by generalize k / 2 = q9 at *; simp [IntKind.wrap, IntKind.bits, IntKind.signed]; omega
        clear hq hqe
        generalize k / 2 = kh at *
        obtain ⟨S0, hS⟩ : ∃ S0 : World → Prop, S0 = fun y => Below W.heap.size W y := ⟨_, rfl⟩
        have hS1 : ∀ y, S0 y → Below W.heap.size W y := fun y h => by rw [hS] at h; exact h
        have k0 : ∀ y : Held S0, y.x.cell? ⟨w1.heap.size, 0, none⟩ = some (.slice T p.tb.length c) := fun y => ((hS1 y.x y.h).cell (World.block_lt_of_cell? W _ hb0)).trans hb0
        have k1 : ∀ y : Held S0, y.x.cell? ⟨w1.heap.size, 1, none⟩ = some (.slice S p.sg.length d) := fun y => ((hS1 y.x y.h).cell (World.block_lt_of_cell? W _ hb1)).trans hb1
        have hS3 : ∀ y, Below W.heap.size W y → S0 y := fun y h1 => by rw [hS]; exact h1
        have HS3 := Lib.hid hS3
        clear hS hS1 hS3 hlt
        go_wp2_with fail
        refine wp_region_mix S0 [(0, 0), (0, 1), (0, 2), (0, 3), (0, 4), (0, 5), (0, 6), (0, 7), (0, 8), (0, 10), (0, 11), (0, 12), (0, 13), (1, 9), (1, 14), (0, 15), (0, 16)] [] (by kernel_rfl) (by kernel_rfl) (HS3.out _ V.drew) ?_
        intro hne1
        simp only [mixOps, List.filterMap_cons, List.filterMap_nil, List.getElem?_toArray, List.getElem?_cons_zero, List.getElem?_cons_succ, Option.map_some]
        have Vd := V.drew
        have hQd := hQr.below (Below.refl _ _).drew
        clear V hX hLr hQr
        generalize wr.drew = wd at *
        repeat (refine mix_early (fun K hK => ?_); go_simp; refine hK _ ?_; clear hK K)
        refine mix_lateG (by rfl) (fun K hK => ?_)
        go_wp2_with fail
        refine (hcg wd Vd).mono ?_
        rintro e w5 ⟨B5, c5, rfl, ho5, v5⟩
        have V5 := Vd.trans (v5.mono Vd.size)
        have hQ5 := hQd.below v5
        clear Vd v5 hcg hQd
        rw [Hq.out]
        go_wp2_with fail
        refine ⟨HS3.out _ V5, ?_⟩
        refine mix_lateG (by rfl) (fun K hK => ?_)
        go_wp2_with fail
        refine (heq B5 c5 w5 ho5.rd hQ5).mono ?_
        rintro e w6 ⟨rfl, v6⟩
        have V6 := V5.trans (v6.mono V5.size)
        clear V5 v6 heq hQ5 ho5
        go_wp2_with fail
        refine ⟨HS3.out _ V6, ?_⟩
        repeat (refine mix_early (fun K hK => ?_); go_simp; refine hK _ ?_; clear hK K)
        refine mix_nil ?_
        simp only [tailT, List.filterMap_nil]
        refine wpLateC_nil (NoPanic.normal ?_)
        clear k0 k1 hne1
        go_wp2_with fail
        go_ret
        exact ⟨rfl, hB2.trans (V6.mono hzW)⟩

set_option maxRecDepth 100000 in
theorem lifted (os : Os) (started : os.Started) (H : Type) (enc : TypeId × Value → H) :
    ReturnsInHanded {} Try.checked os 3 .any (Rows.fnPlanHistorySpec.pre6 enc Try.prog Try.f3 Rows.fnPlanHistoryRow.domain false) (Rows.fnPlanHistorySpec.post enc Try.prog Try.f3 false true false false) := by
  refine returnsInHanded_of_change (C := Try.checked) own started (by kernel_rfl) Try.func3
    (ChangeSpec.witness6 (enc := enc) (C := Try.checked) false ⟨#[], #[.slice none 0 0], []⟩ 8 (by kernel_rfl) (by kernel_rfl) (by kernel_rfl) (by kernel_rfl)) ?_
  intro W base args ds gs before hval0 hW hcnd _
  have hval : ∀ (j : Nat) t v, Try.f3.params[j]? = some t → args[j]? = some v → Value.okWide Try.prog W .any base t v := hval0
  have hW' := hW
  obtain ⟨p, q, hA0, hV, rfl, hfz, hnd⟩ := hW
  have hA : DataW.TrodAll enc Try.prog W 0 (fun _ => true) true Try.f3.params.toList args.toList ds p := hA0
  rw [Try.params3] at hA hval
  obtain ⟨v0, vs0, d0, ds0, p0, q0, hargs, rfl, rfl, h0, r0⟩ := trodAll_cons hA
  obtain ⟨rfl, rfl, rfl⟩ := trodAll_nil r0
  obtain rfl : args = #[v0] := by cases args; simp_all
  obtain ⟨rfl, rfl⟩ := trodVars_none hV
  have k0 := h0
  have lt0 : ∀ x ∈ p0, x.block < W.heap.size := by obtain ⟨m, hm⟩ := k0; exact DataW.trod_lt m _ _ _ hm
  obtain ⟨a0, len0, cap0, rfl⟩ := okWide_slice Try.underlying22 (hval 0 22 v0 rfl rfl)
  obtain ⟨w0, hc0⟩ := open_bytes Try.underlying22 Try.underlying5 (by kernel_rfl) h0
  clear hA0 hval0
  refine (walk a0 len0 cap0 W w0 hc0).mono fun e W' ⟨he, bel⟩ => ?_
  subst he
  exact ⟨_, rfl, _, _, _, [], _, [], hW', trodAll_mk1 (shut_bool Try.underlying4 _), (trodAll_cons_mk (Below.trod laidOut (by kernel_rfl) (of_decide_eq_true (by kernel_rfl)) k0 bel lt0) trodAll_mk0), rfl, bel.frame _, fun h => by cases h⟩

theorem over : Rows.fnPlanHistoryRow.holds Try.pinned (OpenSpec.ofChange Rows.fnPlanHistorySpec) :=
  OpenClaim.holds_of_wide 3 Try.f3 rfl rfl rfl rfl rfl rfl rfl ⟨rfl, rfl, rfl, rfl, rfl⟩ rfl rfl rfl rfl rfl (by kernel_rfl) Try.func3 (by kernel_rfl)
    (of_decide_eq_true (by kernel_rfl)) (by unfold Func.isWrapper; first | (rw [if_pos (by decide +kernel)]; kernel_rfl) | (rw [if_neg (by decide +kernel)]; exact ⟨rfl, rfl⟩))
    (fun os started H enc _ => lifted os started H enc)

theorem proved : Rows.FnPlanHistorySaid := over
end Go.Proofs.Ytcckipckgnkieaa.FnPlanHistory
