/-
  The statement FnWaitTimes: nobody leaves before coming.
-/
import Derived.Test.YtlafbfphegmbaaaOpen
import Derived.Test.YtlafbfphegmbaaaDrList
import Derived.Test.YtlafbfphegmbaaaWaits
import Derived.Test.YtlafbfphegmbaaaQuLaw
import Derived.Test.YtlafbfphegmbaaaLit
namespace Go.Proofs.Ytlafbfphegmbaaa.FnWaitTimes
open Go.RowKit Go.ChangeShapes Go.WideShapes Go.ChangeAt Go.Proofs.Ytlafbfphegmbaaa
set_option linter.unusedVariables false

theorem alone : waitsF [1, 0, 1, 1] [true, true, true, true] = [0, 0, 0] := by decide +kernel
theorem nonneg (ar : List Int) (gr : List Bool) (i : Nat) (h : i < (waitsF ar gr).length) : 0 ≤ (waitsF ar gr)[i] := by
  have hm := List.getElem_mem h
  by_cases hv : validQ ar gr = true
  · simp only [waitsF, hv, if_true] at hm ⊢
    exact waits_nonneg ar gr (validQ_few hv) _ _ hm
  · simp [waitsF, hv] at h

set_option maxHeartbeats 1600000 in
theorem walk (A : Option Addr) (len cap : Nat) (w : World) (h : Bytes w A len) (hc : len ≤ cap) :
    Calls Try.prog 11 #[.slice A len cap] w fun e w' => e = .returned (.bool true) ∧ Below w.heap.size w w' := by
  by_cases hl1 : 1048576 < len
  · go_enter Try.func11, Try.ntmps11
    go_wp2_with fail
    go_ret
    exact ⟨rfl, Below.refl _ _⟩
  go_enter Try.func11, Try.ntmps11
  go_wp2_with fail
  refine (drawQ3_any _ A len cap h hc).mono ?_
  rintro e w1 ⟨ar, gr, A1, B1, c1, d1, rfl, ha, hb, hla, hlb, hsep, hB⟩
  replace ha := ha.rd
  replace hb := hb.rd
  have hz := hB.size
  obtain ⟨hl1, hl2, hl3⟩ := lens ar gr
  have hQ : (waitsF ar gr).length ≤ 150 := by omega
  have HL := Lib.hid hl2
  clear h hsep hl1 hl2
  go_wp2_with fail
  refine (iWaits_any ar gr A1 B1 c1 d1 _ ha hb (by omega) (by omega)).mono ?_
  rintro e w2 ⟨A2, c2, rfl, h2, b2⟩
  replace h2 := h2.rd
  replace ha := ha.below b2
  replace hb := hb.below b2
  replace hB := hB.trans (b2.mono hz)
  have hz2 := hB.size
  clear b2
  go_wp2_with fail
  refine (sWaits_any ar gr A1 B1 c1 d1 _ ha hb (by omega) (by omega)).mono ?_
  rintro e w3 ⟨A3, c3, rfl, h3, b3⟩
  replace h3 := h3.rd
  replace ha := ha.below b3
  replace hb := hb.below b3
  replace h2 := h2.below b3
  replace hB := hB.trans (b3.mono hz2)
  have hz3 := hB.size
  clear b3
  go_wp2_with fail
  refine (equalInts_same (waitsF ar gr) A2 A3 c2 c3 _ h2 h3 (by omega)).mono ?_
  rintro e w4 ⟨rfl, b4⟩
  replace ha := ha.below b4
  replace hb := hb.below b4
  replace h2 := h2.below b4
  replace hB := hB.trans (b4.mono hz3)
  have hz4 := hB.size
  clear b4 h3
  go_wp2_with fail
  go_loopw [6] (fun i wr => ∃ k : Nat, k ≤ (waitsF ar gr).length ∧ i = .int .i64 k ∧ ∃ m, wr = w4.drewN m) (fun i _ => (waitsF ar gr).length - (intOf i).toNat)
  case atStart => exact ⟨0, Nat.zero_le _, rfl, 0, rfl⟩
  case round =>
    obtain ⟨k, hk, rfl, m, rfl⟩ := hrel
    by_cases hlt : k < (waitsF ar gr).length
    · have hn := nonneg ar gr k hlt
      obtain ⟨b1, o1, rfl, hc1⟩ := h2.at hlt
      have H2 := Lib.hid h2
      clear h2
      generalize (waitsF ar gr)[k] = x at hc1 hn
      simp only [fI] at hc1
      go_wp2_with fail
      go_roundw
      case rel => exact ⟨k + 1, by omega, by go_num, m, rfl⟩
      case measure => simp [intOf]; omega
    · replace ha := ha.below (below_drewN (Below.refl _ _) m)
      replace hb := hb.below (below_drewN (Below.refl _ _) m)
      replace h2 := h2.below (below_drewN (Below.refl _ _) m)
      replace hB := below_drewN hB m
      generalize w4.drewN m = w5 at ha hb h2 hB ⊢
      clear hk hz4
      have hz5 := hB.size
      have rI := RdL.new fI w5 3 [1, 0, 1, 1]
      have hw6 := (Below.refl w5.heap.size w5).alloc (Nat.le_refl _) (.cells ([1, 0, 1, 1].map fI).toArray 3)
      have rJ := RdL.new fB (w5.alloc (.cells ([1, 0, 1, 1].map fI).toArray 3)) 4 [true, true, true, true]
      rw [show (w5.alloc (.cells ([1, 0, 1, 1].map fI).toArray 3)).heap.size = w5.heap.size + 1 by simp] at rJ
      have hw7 := hw6.alloc (by simp) (.cells ([true, true, true, true].map fB).toArray 4)
      have hW := iWaits_any [1, 0, 1, 1] [true, true, true, true] _ _ 4 4 _ (rI.alloc _) rJ (by decide) (by decide)
      rw [alone] at hW
      clear rI rJ hw6
      go_wp2_with fail
      refine hW.mono ?_
      rintro e w6 ⟨A6, c6, rfl, h6, b6⟩
      replace h6 := h6.rd
      replace hw7 := hw7.trans (b6.mono (by simp; omega))
      replace ha := ha.below hw7
      replace hb := hb.below hw7
      replace hB := hB.trans (hw7.mono hz5)
      have hz6 := hB.size
      clear b6 hw7 hW h2
      go_wp2_with fail
      refine (iDepart_any ar gr A1 B1 c1 d1 _ ha hb (by omega) (by omega)).mono ?_
      rintro e w7 ⟨A7, c7, rfl, h7, b7⟩
      replace h6 := h6.below b7
      replace hB := hB.trans (b7.mono hz6)
      have hz7 := hB.size
      clear b7 ha hb h7
      have hl2 := HL.out
      go_wp2_with fail
      refine (equalInts_same [0, 0, 0] A6 _ c6 3 _ (h6.alloc _) (RdL.new fI w7 3 [0, 0, 0]) (by decide)).mono ?_
      rintro e w8 ⟨rfl, b8⟩
      replace hB := (hB.alloc hz7 (.cells ([0, 0, 0].map fI).toArray 3)).trans (b8.mono (by simp; omega))
      clear b8
      go_wp2_with fail
      go_ret
      exact ⟨rfl, hB⟩

set_option maxRecDepth 100000 in
theorem lifted (os : Os) (started : os.Started) (H : Type) (enc : TypeId × Value → H) :
    ReturnsInHanded {} Try.checked os 11 .any (Rows.fnWaitTimesSpec.pre6 enc Try.prog Try.f11 Rows.fnWaitTimesRow.domain false) (Rows.fnWaitTimesSpec.post enc Try.prog Try.f11 false true false false) := by
  refine returnsInHanded_of_change (C := Try.checked) own started (by kernel_rfl) Try.func11
    (ChangeSpec.witness6 (enc := enc) (C := Try.checked) false ⟨#[], #[.slice none 0 0], []⟩ 8 (by kernel_rfl) (by kernel_rfl) (by kernel_rfl) (by kernel_rfl)) ?_
  intro W base args ds gs before hval0 hW hcnd _
  have hval : ∀ (j : Nat) t v, Try.f11.params[j]? = some t → args[j]? = some v → Value.okWide Try.prog W .any base t v := hval0
  have hW' := hW
  obtain ⟨p, q, hA0, hV, rfl, hfz, hnd⟩ := hW
  have hA : DataW.TrodAll enc Try.prog W 0 (fun _ => true) true Try.f11.params.toList args.toList ds p := hA0
  rw [Try.params11] at hA hval
  obtain ⟨v0, vs0, d0, ds0, p0, q0, hargs, rfl, rfl, h0, r0⟩ := trodAll_cons hA
  obtain ⟨rfl, rfl, rfl⟩ := trodAll_nil r0
  obtain rfl : args = #[v0] := by cases args; simp_all
  obtain ⟨rfl, rfl⟩ := trodVars_none hV
  have k0 := h0
  have lt0 : ∀ x ∈ p0, x.block < W.heap.size := by obtain ⟨m, hm⟩ := k0; exact DataW.trod_lt m _ _ _ hm
  obtain ⟨a0, len0, cap0, rfl⟩ := okWide_slice Try.underlying33 (hval 0 33 v0 rfl rfl)
  obtain ⟨w0, hc0⟩ := open_bytes Try.underlying33 Try.underlying5 (by kernel_rfl) h0
  clear hA0 hval0
  refine (walk a0 len0 cap0 W w0 hc0).mono fun e W' ⟨he, bel⟩ => ?_
  subst he
  exact ⟨_, rfl, _, _, _, [], _, [], hW', trodAll_mk1 (shut_bool Try.underlying4 _), (trodAll_cons_mk (Below.trod laidOut (by kernel_rfl) (of_decide_eq_true (by kernel_rfl)) k0 bel lt0) trodAll_mk0), rfl, bel.frame _, fun h => by cases h⟩

theorem over : Rows.fnWaitTimesRow.holds Try.pinned (OpenSpec.ofChange Rows.fnWaitTimesSpec) :=
  OpenClaim.holds_of_wide 11 Try.f11 rfl rfl rfl rfl rfl rfl rfl ⟨rfl, rfl, rfl, rfl, rfl⟩ rfl rfl rfl rfl rfl (by kernel_rfl) Try.func11 (by kernel_rfl)
    (of_decide_eq_true (by kernel_rfl)) (by unfold Func.isWrapper; first | (rw [if_pos (by decide +kernel)]; kernel_rfl) | (rw [if_neg (by decide +kernel)]; exact ⟨rfl, rfl⟩))
    (fun os started H enc _ => lifted os started H enc)

theorem proved : Rows.FnWaitTimesSaid := over
end Go.Proofs.Ytlafbfphegmbaaa.FnWaitTimes
