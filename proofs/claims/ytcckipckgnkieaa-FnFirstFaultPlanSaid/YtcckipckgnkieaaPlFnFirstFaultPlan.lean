/-
  The statement FnFirstFaultPlan: plans have no faults.
-/
import Derived.Test.YtcckipckgnkieaaPlDrP
import Derived.Test.YtcckipckgnkieaaPlImp8
import Derived.Test.YtcckipckgnkieaaPlLaw
import Derived.Test.YtcckipckgnkieaaOpen
namespace Go.Proofs.Ytcckipckgnkieaa.FnFirstFaultPlan
open Go.RowKit Go.ChangeShapes Go.WideShapes Go.ChangeAt Go.Proofs.Ytcckipckgnkieaa
set_option linter.unusedVariables false

set_option maxRecDepth 100000 in
set_option maxHeartbeats 1600000 in
theorem walk (A : Option Addr) (len cap : Nat) (w : World) (h : Bytes w A len) (hc : len ≤ cap) :
    Calls Try.prog 5 #[.slice A len cap] w fun e w' => e = .returned (.bool true) ∧ Below w.heap.size w w' := by
  by_cases hl1 : 1048576 < len
  · go_enter Try.func5, Try.ntmps5
    go_wp2_with fail
    go_ret
    exact ⟨rfl, Below.refl _ _⟩
  go_enter Try.func5, Try.ntmps5
  go_wp2_with fail
  refine (drawPH_any _ A len cap h hc).mono ?_
  rintro e w1 ⟨p, T, c, S, d, f, n, rfl, hr, hs, hsd, hfb, hnb, hB⟩
  obtain ⟨hBW, hb0, hb1, -⟩ := boxP_at w1 p T c S d
  have hzB := hB.size
  have Hr := Lib.hid (hr.below hBW)
  have Hs := Lib.hid (show SmP p 1000000000 from ⟨by have := hs.t; omega, fun k hk => by have := hs.r k hk; omega, by have := hs.s; omega, fun k hk => by have := hs.f k hk; omega⟩)
  have Hsd := Lib.hid hsd
  have hB2 := hB.trans (hBW.mono hzB)
  have hzW := hB2.size
  obtain ⟨l, hl⟩ : ∃ l, l = planF p f n := ⟨_, rfl⟩
  have hlsm := planF_sm p f n
  clear h hs hsd hr hB hBW
  go_wp2_with fail
  generalize w1.alloc (.cells #[.slice T p.tb.length c, .slice S p.sg.length d] 26) = W at *
  have hi := fun y (hy : Below W.heap.size W y) => iHist_any p f n T S c d y (Hr.out.below hy) Hs.out Hsd.out
  have hsp := fun y (hy : Below W.heap.size W y) => sHist_any p f n T S c d y (Hr.out.below hy) Hs.out
  have Hl := Lib.hid hl
  rw [← hl] at hi hsp hlsm
  have hll := hlsm.1
  have Hlr := Lib.hid (fun k (hk : k < l.length) => show (gm l k).length ≤ 2000000 by have := hlsm.2 k hk; omega)
  have Hi := Lib.hid hi
  have Hsp := Lib.hid hsp
  clear hl hi hsp hlsm
  refine (Hi.out W (Below.refl _ _)).mono ?_
  rintro e w2 ⟨D, d2, rfl, hL, v2⟩
  have hL2 := hL.rd
  have V2 := v2
  have c0 := (V2.cell (World.block_lt_of_cell? W _ hb0)).trans hb0
  have c1 := (V2.cell (World.block_lt_of_cell? W _ hb1)).trans hb1
  clear hL v2
  go_wp2_with fail
  refine (Hsp.out w2 V2).mono ?_
  rintro e w3 ⟨D3, d3, rfl, hL', v3⟩
  have hL3 := hL'.rd
  replace hL2 := hL2.below v3
  have V3 := V2.trans (v3.mono V2.size)
  clear hL' v3 V2 c0 c1
  go_wp2_with fail
  refine (equalLists_same l D D3 d2 d3 _ hL2 hL3 (by omega) Hlr.out).mono ?_
  rintro e w4 ⟨rfl, v4⟩
  replace hL2 := hL2.below v4
  have V4 := V3.trans (v4.mono V3.size)
  have c0 := (V4.cell (World.block_lt_of_cell? W _ hb0)).trans hb0
  have c1 := (V4.cell (World.block_lt_of_cell? W _ hb1)).trans hb1
  clear v4 V3 hL3
  by_cases hl0 : l.length = 0
  · have hbl : (((l.length : Nat) : Int) == 0) = true := by simp [hl0]
    clear hl0
    go_wp2_with fail
    refine (Hsp.out w4 V4).mono ?_
    rintro e w5 ⟨D5, d5, rfl, hL', v5⟩
    have hL5 := hL'.rd
    replace hL2 := hL2.below v5
    have V5 := V4.trans (v5.mono V4.size)
    clear hL' v5 V4 c0 c1
    go_wp2_with fail
    refine (equalLists_same l D D5 d2 d5 _ hL2 hL5 (by omega) Hlr.out).mono ?_
    rintro e w6 ⟨rfl, v6⟩
    have V6 := V5.trans (v6.mono V5.size)
    clear v6 V5
    go_wp2_with fail
    go_ret
    exact ⟨rfl, hB2.trans (V6.mono hzW)⟩
  · have hbl : (((l.length : Nat) : Int) == 0) = false := beq_eq_false_iff_ne.mpr (by omega)
    have F1 := Lib.hid (show -1 = faultF p.tb l by rw [Hl.out]; exact (planF_fault (by rw [← Hl.out]; exact hl0)).symm)
    have hl00 : 0 < l.length := by omega
    clear hl0
    go_wp2_with fail
    refine (iFault_v p.tb l (-1) F1 T D c d2 w4 (Hr.out.t.below V4) hL2 Hs.out.t Hs.out.r (by omega) (fun k hk => by have := Hlr.out k hk; omega)).mono ?_
    rintro e w5 ⟨rfl, v5⟩
    have V5 := V4.trans (v5.mono V4.size)
    clear v5 V4 c0 c1
    go_wp2_with fail
    go_ret
    exact ⟨rfl, hB2.trans (V5.mono hzW)⟩

set_option maxRecDepth 100000 in
theorem lifted (os : Os) (started : os.Started) (H : Type) (enc : TypeId × Value → H) :
    ReturnsInHanded {} Try.checked os 5 .any (Rows.fnFirstFaultPlanSpec.pre6 enc Try.prog Try.f5 Rows.fnFirstFaultPlanRow.domain false) (Rows.fnFirstFaultPlanSpec.post enc Try.prog Try.f5 false true false false) := by
  refine returnsInHanded_of_change (C := Try.checked) own started (by kernel_rfl) Try.func5
    (ChangeSpec.witness6 (enc := enc) (C := Try.checked) false ⟨#[], #[.slice none 0 0], []⟩ 8 (by kernel_rfl) (by kernel_rfl) (by kernel_rfl) (by kernel_rfl)) ?_
  intro W base args ds gs before hval0 hW hcnd _
  have hval : ∀ (j : Nat) t v, Try.f5.params[j]? = some t → args[j]? = some v → Value.okWide Try.prog W .any base t v := hval0
  have hW' := hW
  obtain ⟨p, q, hA0, hV, rfl, hfz, hnd⟩ := hW
  have hA : DataW.TrodAll enc Try.prog W 0 (fun _ => true) true Try.f5.params.toList args.toList ds p := hA0
  rw [Try.params5] at hA hval
  obtain ⟨v0, vs0, d0, ds0, p0, q0, hargs, rfl, rfl, h0, r0⟩ := trodAll_cons hA
  obtain ⟨rfl, rfl, rfl⟩ := trodAll_nil r0
  obtain rfl : args = #[v0] := by cases args; simp_all
  obtain ⟨rfl, rfl⟩ := trodVars_none hV
  have k0 := h0
  have lt0 : ∀ x ∈ p0, x.block < W.heap.size := by obtain ⟨m, hm⟩ := k0; exact DataW.trod_lt m _ _ _ hm
  obtain ⟨a0, len0, cap0, rfl⟩ := okWide_slice Try.underlying22 (hval 0 22 v0 rfl rfl)
  obtain ⟨w0, hc0⟩ := open_bytes Try.underlying22 Try.underlying5 (by kernel_rfl) h0
  clear hA0 hval0
  refine (walk a0 len0 cap0 W w0 hc0).mono fun e W' ⟨he, bel⟩ => ?_
  subst he
  exact ⟨_, rfl, _, _, _, [], _, [], hW', trodAll_mk1 (shut_bool Try.underlying4 _), (trodAll_cons_mk (Below.trod laidOut (by kernel_rfl) (of_decide_eq_true (by kernel_rfl)) k0 bel lt0) trodAll_mk0), rfl, bel.frame _, fun h => by cases h⟩

theorem over : Rows.fnFirstFaultPlanRow.holds Try.pinned (OpenSpec.ofChange Rows.fnFirstFaultPlanSpec) :=
  OpenClaim.holds_of_wide 5 Try.f5 rfl rfl rfl rfl rfl rfl rfl ⟨rfl, rfl, rfl, rfl, rfl⟩ rfl rfl rfl rfl rfl (by kernel_rfl) Try.func5 (by kernel_rfl)
    (of_decide_eq_true (by kernel_rfl)) (by unfold Func.isWrapper; first | (rw [if_pos (by decide +kernel)]; kernel_rfl) | (rw [if_neg (by decide +kernel)]; exact ⟨rfl, rfl⟩))
    (fun os started H enc _ => lifted os started H enc)

theorem proved : Rows.FnFirstFaultPlanSaid := over
end Go.Proofs.Ytcckipckgnkieaa.FnFirstFaultPlan
