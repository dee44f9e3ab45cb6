/-
  The statement FnRunActor.
-/
import Derived.Test.YtkppjngpllmpfaaOpen
import Derived.Test.YtkppjngpllmpfaaRunFn
namespace Go.Proofs.Ytkppjngpllmpfaa.FnRunActor
open Go.RowKit Go.ChangeShapes Go.WideShapes Go.ChangeAt Go.Proofs.Ytkppjngpllmpfaa
set_option linter.unusedVariables false

set_option maxHeartbeats 6400000 in
theorem walk (A : Option Addr) (len cap : Nat) (w : World) (h : Bytes w A len) (hc : len ≤ cap) :
    Calls Try.prog 5 #[.slice A len cap] w fun e w' => e = .returned (.bool true) ∧ Below w.heap.size w w' := by
  by_cases hl1 : 1048576 < len
  · go_enter Try.func5, Try.ntmps5
    go_wp2_with fail
    go_ret
    exact ⟨rfl, Below.refl _ _⟩
  go_enter Try.func5, Try.ntmps5
  go_wp2_with fail
  refine (drawRn_any _ A len cap h hc).mono ?_
  rintro e w1 ⟨a, A1, c1, C, d, cs, rfl, ⟨ha1, ha2, ha3⟩, hcl, hcd, hfit, hr, hcr, hB⟩
  have Hfit := Lib.hid hfit
  clear h hfit
  have hw5 : a.wa.length ≤ 6 := ha3
  have hQ : (runF a cs).length ≤ 150 := runF_length
  obtain ⟨qs, hqs⟩ : ∃ qs, qs = runF a cs := ⟨_, rfl⟩
  have hI := fun w hr hc => iRun_any a cs A1 C c1 d w hr hc (by omega)
  have hW := fun w hr hc => sRun_any a cs A1 C c1 d w hr hc (by omega)
  rw [← hqs] at hI hW hQ
  have Hqs := Lib.hid hqs
  clear hqs
  go_wp2_with fail
  have ba := Blk.new w1 25 (acC a A1 c1)
  replace hr := hr.alloc (.cells (acC a A1 c1) 25)
  replace hcr := hcr.alloc (.cells (acC a A1 c1) 25)
  replace hB := hB.alloc hB.size (.cells (acC a A1 c1) 25)
  generalize w1.alloc (.cells (acC a A1 c1) 25) = w2 at *
  generalize w1.heap.size = ga at *
  refine (hI _ hr hcr).mono ?_
  rintro e w3 ⟨A2, c2, rfl, h2, v0⟩
  replace hr := hr.below v0
  replace hcr := hcr.below v0
  replace ba := ba.below v0 ba.lt
  replace hB := hB.trans (v0.mono hB.size)
  have h2c := h2.capLe
  replace h2 := h2.rd
  clear v0
  obtain ⟨f0, f1, f2, f3, f4, f5⟩ := loadT ba
  by_cases hq : qs = []
  · rw [hq] at h2 hW ⊢
    clear hq hQ hI h2c
    simp only [List.length_nil] at h2 hW ⊢
    go_wp2_with fail
    refine (hW _ hr hcr).mono ?_
    rintro e w4 ⟨A3, c3, rfl, h3, v0⟩
    replace hr := hr.below v0
    replace hcr := hcr.below v0
    replace h2 := h2.below v0
    replace ba := ba.below v0 ba.lt
    replace hB := hB.trans (v0.mono hB.size)
    replace h3 := h3.rd
    clear v0 f0 f1 f2 f3 f4 f5
    go_wp2_with fail
    refine (equalInts_same [] A2 A3 c2 c3 _ h2 h3 (by decide)).mono ?_
    rintro e w5 ⟨rfl, v0⟩
    replace hr := hr.below v0
    replace hcr := hcr.below v0
    replace h2 := h2.below v0
    replace ba := ba.below v0 ba.lt
    replace hB := hB.trans (v0.mono hB.size)
    clear v0 h3
    obtain ⟨f0, f1, f2, f3, f4, f5⟩ := loadT ba
    go_wp2_with fail
    refine (hW _ hr hcr).mono ?_
    rintro e w6 ⟨A5, c5, rfl, h5, v0⟩
    replace h2 := h2.below v0
    replace hB := hB.trans (v0.mono hB.size)
    replace h5 := h5.rd
    clear v0 f0 f1 f2 f3 f4 f5
    go_wp2_with fail
    refine (equalInts_same [] A2 A5 c2 c5 _ h2 h5 (by decide)).mono ?_
    rintro e w7 ⟨rfl, v0⟩
    replace hB := hB.trans (v0.mono hB.size)
    clear v0
    go_wp2_with fail
    go_ret
    exact ⟨rfl, hB⟩
  replace hq : ¬ qs.length = 0 := fun h => hq (List.eq_nil_of_length_eq_zero h)
  have hv : validR a cs = true := by
    cases hv : validR a cs with
    | true => rfl
    | false => exact absurd (by rw [Hqs.out]; simp [runF, hv]) hq
  have hL : qs.length = cs.length := by rw [Hqs.out, runF, if_pos hv, runL_length]
  have hq1 : (((qs.length : Nat) : Int) == 0) = false := by simpa using fun h => hq (by simp [h])
  have hq0 : ((qs.length : Nat) : Int) ≠ 0 := by omega
  have hc0 : 0 < cs.length := by omega
  have HL := Lib.hid hL
  have Hv := Lib.hid hv
  clear hL hv hI
  go_wp2_with fail
  refine (hW _ hr hcr).mono ?_
  rintro e w4 ⟨A3, c3, rfl, h3, v0⟩
  replace hr := hr.below v0
  replace hcr := hcr.below v0
  replace h2 := h2.below v0
  replace ba := ba.below v0 ba.lt
  replace hB := hB.trans (v0.mono hB.size)
  replace h3 := h3.rd
  clear v0 f0 f1 f2 f3 f4 f5 hW
  go_wp2_with fail
  refine (equalInts_same qs A2 A3 c2 c3 _ h2 h3 (by omega)).mono ?_
  rintro e w5 ⟨rfl, v0⟩
  replace hr := hr.below v0
  replace hcr := hcr.below v0
  replace h2 := h2.below v0
  replace ba := ba.below v0 ba.lt
  replace hB := hB.trans (v0.mono hB.size)
  clear v0 h3
  obtain ⟨b0, o0, A0, c0, rfl, -, -⟩ := hcr.at (k := 0) hc0
  obtain ⟨g2, p2, rfl, -⟩ := h2.at (k := 0) (by omega)
  have hsg := Lib.hid (fun k hk => stA_good Hv.out k hk)
  have hsf := Lib.hid (fun (k : Nat) (hk : k < cs.length) => stA_fit Hv.out hk)
  have hss := Lib.hid (fun (k : Nat) (hk : k < cs.length) => stA_step (a := a) (cs := cs) hk)
  have hqk := Lib.hid (show ∀ k (h : k < qs.length), qs[k] = outA (stA a cs (k + 1)) from fun k h => by
    have e : qs = runL a cs cs.length := by rw [Hqs.out, runF, if_pos Hv.out]
    subst e
    exact runL_get _ _ _ _ _)
  have hA1 : ∀ b o, A1 = some ⟨b, o, none⟩ → b ≠ w5.heap.size := fun b o hA => by
    have hg := (hsg.out 0 (Nat.zero_le _)).1
    have h1 := hg.wa
    have h3 := hg.st
    obtain ⟨b', o', e, hcell⟩ := hr.at (k := 0) (by simp only [stA] at h1 h3; omega)
    rw [hA] at e
    injection e with e
    injection e with e e'
    subst e e'
    have := World.block_lt_of_cell? w5 _ hcell
    simp only at this
    omega
  obtain ⟨f0, f1, f2, f3, f4, f5⟩ := loadT ba
  go_wp2_with fail
  have bx := Blk.new w5 25 (acC a A1 c1)
  have hBW := (Below.refl w5.heap.size w5).alloc (Nat.le_refl _) (.cells (acC a A1 c1) 25)
  have hrx := hr.alloc (.cells (acC a A1 c1) 25)
  obtain ⟨gx, hgx⟩ : ∃ gx, gx = w5.heap.size := ⟨_, rfl⟩
  rw [← hgx] at bx hA1
  simp only [← hgx]
  have Hgx := Lib.hid hgx
  clear hr ba f0 f1 f2 f3 f4 f5 hgx
  generalize w5.alloc (.cells (acC a A1 c1) 25) = w6 at *
  go_loopw [7] (fun i wr => ∃ k : Nat, k ≤ cs.length ∧ i = .int .i64 k ∧ (∃ Ax cx, Blk wr gx 25 (acC (stA a cs k) Ax cx) ∧ RdL fB wr Ax (stA a cs k).wa ∧ ∀ b o, Ax = some ⟨b, o, none⟩ → b ≠ gx) ∧ Below w5.heap.size w5 wr) (fun i _ => cs.length - (intOf i).toNat)
  case atStart => exact ⟨0, Nat.zero_le _, rfl, ⟨A1, c1, bx, hrx, hA1⟩, hBW⟩
  case round =>
    clear bx hrx hBW
    obtain ⟨k, hk, rfl, ⟨Ax, cx, bx, hrx, hnx⟩, hBW⟩ := hrel
    by_cases hlt : k < cs.length
    case neg =>
      obtain rfl : k = cs.length := by omega
      have hBf := hB.trans (hBW.mono hB.size)
      clear bx hrx hnx hBW hcr h2
      go_wp2_with fail
      all_goals (go_ret; exact ⟨ret_bool (by simp [HL.out]), hBf⟩)
    have hkq : k < qs.length := by have := HL.out; omega
    obtain ⟨hgk, -, -⟩ := hsg.out k (by omega)
    have hlk := hsf.out k hlt
    have hsk := hss.out k hlt
    have hgk1 := (hsg.out (k + 1) (by omega)).1
    obtain ⟨b, o, A', c', e0, hcw, hrk⟩ := hcr.at hlt
    injection e0 with e0
    injection e0 with e0 e0'
    subst e0 e0'
    obtain ⟨b', o', e0, hqw⟩ := h2.at hkq
    injection e0 with e0
    injection e0 with e0 e0'
    subst e0 e0'
    have hbw : b0 < w5.heap.size := World.block_lt_of_cell? w5 _ hcw
    have hgw : g2 < w5.heap.size := World.block_lt_of_cell? w5 _ hqw
    rw [hqk.out k hkq] at hqw
    have hcell := (hBW.cell hbw).trans hcw
    obtain ⟨x, hx⟩ : ∃ x, x = stA a cs k := ⟨_, rfl⟩
    rw [← hx] at hgk hlk hsk bx hrx
    have hstep := fun W h1 h2 => iStepG_any x (cs[k]'hlt) Ax A' cx c' W h1 h2
    obtain ⟨x1, hx1⟩ : ∃ x1, x1 = stA a cs (k + 1) := ⟨_, rfl⟩
    have hsG : stepG x cs[k] = x1 := by
      rw [hx1, hsk, stepG, if_pos]
      simp only [okA, Bool.and_eq_true, decide_eq_true_eq]
      exact ⟨validA_iff.mpr hgk, by have := hgk.wa; omega⟩
    rw [hsG] at hstep
    rw [← hx1] at hqw hgk1
    have Hx1 : Hid (x1 = stA a cs (k + 1)) := Lib.hid hx1
    clear hx hlk hsk hx1 hsG hgk
    generalize cs[k] = ck at *
    go_wp2_with fail
    obtain ⟨S, hS⟩ : ∃ S : World → Prop, S = fun y => Blk y gx 25 (acC x Ax cx) ∧ y.cell? ⟨b0, o0 + k, none⟩ = some (.slice A' ck.length c') := ⟨_, rfl⟩
    have hS1 : ∀ y, S y → Blk y gx 25 (acC x Ax cx) := fun y h => by rw [hS] at h; exact h.1
    have hS2' : ∀ y, S y → y.cell? ⟨b0, o0 + k, none⟩ = some (.slice A' ck.length c') := fun y h => by rw [hS] at h; exact h.2
    have hS2 : ∀ y : Held S, y.x.cell? ⟨b0, o0 + k, none⟩ = some (.slice A' ck.length c') := fun y => hS2' y.x y.h
    clear hS2'
    have hS3 : ∀ y, Blk y gx 25 (acC x Ax cx) → y.cell? ⟨b0, o0 + k, none⟩ = some (.slice A' ck.length c') → S y := fun y h1 h2 => by rw [hS]; exact ⟨h1, h2⟩
    obtain ⟨k0, k1, k2, k3, k4, k5⟩ := held_cells hS1
    have HS3 := Lib.hid hS3
    clear hS hS1 hS3
    refine wp_region_mix S [(0, 0), (0, 1), (0, 2), (0, 3), (0, 4), (1, 5)] [6] (by kernel_rfl) (by kernel_rfl) (HS3.out _ bx.drew hcell) ?_
    intro hne1
    simp only [mixOps, List.filterMap_cons, List.filterMap_nil, List.getElem?_toArray, List.getElem?_cons_zero, List.getElem?_cons_succ, Option.map_some]
    replace bx := bx.drew
    replace hBW := hBW.drew
    replace hrx := hrx.drew
    generalize wr.drew = wd at *
    repeat (refine mix_early (fun K hK => ?_); go_simp; refine hK _ ?_; clear hK K)
    clear k0 k1 k2 k3 k4 k5 hS2 hne1
    refine mix_late rfl (fun K hK => ?_)
    go_wp2_with fail
    refine (hstep _ hrx (hrk.below hBW)).mono ?_
    rintro e w7 ⟨A7, c7, rfl, h7, v0⟩
    have hn7 := own_ne h7 gx (.inl bx.lt)
    have hgl := bx.lt
    replace bx := bx.below v0 hgl
    replace hBW := hBW.trans (v0.mono hBW.size)
    have hcell6 := (hBW.cell hbw).trans hcw
    clear v0 hstep hrx hcell
    go_wp2_with fail
    refine ⟨HS3.out _ bx hcell6, ?_⟩
    refine mix_nil ?_
    simp only [tailT, List.filterMap_cons, List.filterMap_nil, List.getElem?_toArray, List.getElem?_cons_zero, List.getElem?_cons_succ]
    obtain ⟨f0, f1, f2, f3, f4, f5⟩ := loadT bx
    have hff := bx.frozen
    have h72 := (own_set6 (g := gx) (v0 := .int .i64 x1.st) (v1 := .int .i64 x1.now) (v2 := .int .i64 x1.pa) (v3 := .int .i64 x1.qu) (v4 := .int .i64 x1.le) (v5 := .slice A7 x1.wa.length c7) h7 hn7).rd
    have bx2 := bx.set6 (v0 := .int .i64 x1.st) (v1 := .int .i64 x1.now) (v2 := .int .i64 x1.pa) (v3 := .int .i64 x1.qu) (v4 := .int .i64 x1.le) (v5 := .slice A7 x1.wa.length c7)
    have hBW2 := below_set6 (g := gx) (v0 := .int .i64 x1.st) (v1 := .int .i64 x1.now) (v2 := .int .i64 x1.pa) (v3 := .int .i64 x1.qu) (v4 := .int .i64 x1.le) (v5 := .slice A7 x1.wa.length c7) hBW (by rw [Hgx.out]; exact Nat.le_refl _)
    have hq2 := (hBW2.cell hgw).trans hqw
    have hle0 := hgk1.le
    have HBX := Lib.hid bx2
    have HO := Lib.hid h72
    have HBW := Lib.hid hBW2
    have HQ := Lib.hid hq2
    clear bx hBW bx2 h72 h7 hBW2 hq2 hcell6
    refine wpLateC_tail rfl (fun K hK => ?_)
    go_wp2_with fail
    refine wpLateC_nil (NoPanic.normal ?_)
    have bx2 := HBX.out
    have hq2 := HQ.out
    clear f0 f1 f2 f3 f4 f5 hff HBX HQ
    have HO' := HO.out
    have HBW' := HBW.out
    clear HO HBW
    simp only [set6] at bx2 hq2 HO' HBW'
    generalize hW : (((((w7.setCell ⟨gx, 0, none⟩ (.int .i64 x1.st)).setCell ⟨gx, 1, none⟩ (.int .i64 x1.now)).setCell ⟨gx, 2, none⟩ (.int .i64 x1.pa)).setCell ⟨gx, 3, none⟩ (.int .i64 x1.qu)).setCell ⟨gx, 4, none⟩ (.int .i64 x1.le)).setCell ⟨gx, 5, none⟩ (.slice A7 x1.wa.length c7) = w8 at *
    have HO := Lib.hid HO'
    have HBW := Lib.hid HBW'
    clear HO' HBW'
    have HBX := Lib.hid bx2
    have f1 := bx2.cell 1
    have f4 := bx2.cell 4
    simp at f1 f4
    clear bx2 hW hqw
    by_cases hle : 0 < x1.le
    · have hout : outA x1 = -1 := by simp [outA, hle]
      simp only [hout, fI] at hq2
      have e1 : decide (0 < x1.le) = true := by simpa using hle
      have e2 : (x1.le == 0) = false := by simp; omega
      clear hout
      go_wp2_with fail
      go_quiet (fail)
      go_wp2_with fail
      go_roundw
      case rel => exact ⟨k + 1, by omega, by go_num, ⟨A7, c7, by rw [← Hx1.out]; exact HBX.out.below (below_drewN (Below.refl _ _) _) HBX.out.lt, by rw [← Hx1.out]; exact HO.out.below (below_drewN (Below.refl _ _) _), fun b o h => hn7 b (by rw [h]; rfl)⟩, below_drewN HBW.out _⟩
      case measure => simp [intOf]; omega
    · have hout : outA x1 = x1.now := by simp [outA, hle]
      simp only [hout, fI] at hq2
      have e1 : decide (0 < x1.le) = false := by simpa using hle
      have e2 : (x1.le == 0) = true := by simp; omega
      clear hout
      go_wp2_with fail
      go_quiet (fail)
      go_wp2_with fail
      go_roundw
      case rel => exact ⟨k + 1, by omega, by go_num, ⟨A7, c7, by rw [← Hx1.out]; exact HBX.out.below (below_drewN (Below.refl _ _) _) HBX.out.lt, by rw [← Hx1.out]; exact HO.out.below (below_drewN (Below.refl _ _) _), fun b o h => hn7 b (by rw [h]; rfl)⟩, below_drewN HBW.out _⟩
      case measure => simp [intOf]; omega

set_option maxRecDepth 100000 in
theorem lifted (os : Os) (started : os.Started) (H : Type) (enc : TypeId × Value → H) :
    ReturnsInHanded {} Try.checked os 5 .any (Rows.fnRunActorSpec.pre6 enc Try.prog Try.f5 Rows.fnRunActorRow.domain false) (Rows.fnRunActorSpec.post enc Try.prog Try.f5 false true false false) := by
  refine returnsInHanded_of_change (C := Try.checked) own started (by kernel_rfl) Try.func5
    (ChangeSpec.witness6 (enc := enc) (C := Try.checked) false ⟨#[], #[.slice none 0 0], []⟩ 8 (by kernel_rfl) (by kernel_rfl) (by kernel_rfl) (by kernel_rfl)) ?_
  intro W base args ds gs before hval0 hW hcnd _
  have hval : ∀ (j : Nat) t v, Try.f5.params[j]? = some t → args[j]? = some v → Value.okWide Try.prog W .any base t v := hval0
  have hW' := hW
  obtain ⟨p, q, hA0, hV, rfl, hfz, hnd⟩ := hW
  have hA : DataW.TrodAll enc Try.prog W 0 (fun _ => true) true Try.f5.params.toList args.toList ds p := hA0
  rw [Try.params5] at hA hval
  obtain ⟨v0, vs0, d0, ds0, p0, q0, hargs, rfl, rfl, h0, r0⟩ := trodAll_cons hA
  obtain ⟨rfl, rfl, rfl⟩ := trodAll_nil r0
  obtain rfl : args = #[v0] := by cases args; simp_all
  obtain ⟨rfl, rfl⟩ := trodVars_none hV
  have k0 := h0
  have lt0 : ∀ x ∈ p0, x.block < W.heap.size := by obtain ⟨m, hm⟩ := k0; exact DataW.trod_lt m _ _ _ hm
  obtain ⟨a0, len0, cap0, rfl⟩ := okWide_slice Try.underlying22 (hval 0 22 v0 rfl rfl)
  obtain ⟨w0, hc0⟩ := open_bytes Try.underlying22 Try.underlying5 (by kernel_rfl) h0
  clear hA0 hval0
  refine (walk a0 len0 cap0 W w0 hc0).mono fun e W' ⟨he, bel⟩ => ?_
  subst he
  exact ⟨_, rfl, _, _, _, [], _, [], hW', trodAll_mk1 (shut_bool Try.underlying4 _), (trodAll_cons_mk (Below.trod laidOut (by kernel_rfl) (of_decide_eq_true (by kernel_rfl)) k0 bel lt0) trodAll_mk0), rfl, bel.frame _, fun h => by cases h⟩

theorem over : Rows.fnRunActorRow.holds Try.pinned (OpenSpec.ofChange Rows.fnRunActorSpec) :=
  OpenClaim.holds_of_wide 5 Try.f5 rfl rfl rfl rfl rfl rfl rfl ⟨rfl, rfl, rfl, rfl, rfl⟩ rfl rfl rfl rfl rfl (by kernel_rfl) Try.func5 (by kernel_rfl)
    (of_decide_eq_true (by kernel_rfl)) (by unfold Func.isWrapper; first | (rw [if_pos (by decide +kernel)]; kernel_rfl) | (rw [if_neg (by decide +kernel)]; exact ⟨rfl, rfl⟩))
    (fun os started H enc _ => lifted os started H enc)

theorem proved : Rows.FnRunActorSaid := over
end Go.Proofs.Ytkppjngpllmpfaa.FnRunActor
