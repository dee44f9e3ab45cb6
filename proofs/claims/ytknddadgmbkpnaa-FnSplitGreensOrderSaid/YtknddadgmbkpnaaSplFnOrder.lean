/-
  The statement FnSplitGreensOrder.
-/
import Derived.Test.YtknddadgmbkpnaaOpen
import Derived.Test.YtknddadgmbkpnaaSplImpl
import Derived.Test.YtknddadgmbkpnaaSplDraw
namespace Go.Proofs.Ytknddadgmbkpnaa.FnSplitGreensOrder
open Go.RowKit Go.ChangeShapes Go.WideShapes Go.ChangeAt Go.Proofs.Ytknddadgmbkpnaa
set_option linter.unusedVariables false

set_option maxHeartbeats 6400000 in
theorem walk (A : Option Addr) (len cap : Nat) (w : World) (h : Bytes w A len) (hc : len ≤ cap) :
    Calls Try.prog 7 #[.slice A len cap] w fun e w' => e = .returned (.bool true) ∧ Below w.heap.size w w' := by
  by_cases hl1 : 1048576 < len
  · go_enter Try.func7, Try.ntmps7
    go_wp2_with fail
    go_ret
    exact ⟨rfl, Below.refl _ _⟩
  go_enter Try.func7, Try.ntmps7
  go_wp2_with fail
  refine (drawS_any _ A len cap h hc).mono ?_
  rintro e w1 ⟨total, de, le, A1, B1, c1, d1, rfl, ha, hb, hla, hlb, hB⟩
  replace ha := ha.rd
  replace hb := hb.rd
  clear h
  have hQ : (splitF total de le).length ≤ 5 := by
    cases hv : validS total de le with
    | true =>
      have h1 := splitF_len hv
      have h2 := (validS_parts hv).2.1
      omega
    | false => simp [splitF, hv]
  obtain ⟨qs, hqs⟩ : ∃ qs, qs = splitF total de le := ⟨_, rfl⟩
  have hI := fun w ha hb => iSplit_any total de le A1 B1 c1 d1 w ha hb (by omega) (by omega)
  have hW := fun w ha hb => sSplit_any total de le A1 B1 c1 d1 w ha hb (by omega) (by omega)
  rw [← hqs] at hI hW hQ
  have Hqs := Lib.hid hqs
  clear hqs
  go_wp2_with fail
  refine (hI _ ha hb).mono ?_
  rintro e w2 ⟨A2, c2, rfl, h2, v0⟩
  replace h2 := h2.rd
  replace ha := ha.below v0
  replace hb := hb.below v0
  replace hB := hB.trans (v0.mono hB.size)
  clear v0 hI
  cases hv : validS total de le with
  | false =>
    have hq : qs = [] := by rw [Hqs.out]; simp [splitF, hv]
    rw [hq] at h2 hW ⊢
    clear hq hQ hv
    simp only [List.length_nil] at h2 hW ⊢
    by_cases hd0 : de = []
    · subst hd0
      simp only [List.length_nil]
      go_wp2_with fail
      refine (hW _ ha hb).mono ?_
      rintro e w3 ⟨A3, c3, rfl, h3, v0⟩
      replace h3 := h3.rd
      replace ha := ha.below v0
      replace hb := hb.below v0
      replace h2 := h2.below v0
      replace hB := hB.trans (v0.mono hB.size)
      clear v0
      go_wp2_with fail
      refine (equalInts_same [] A2 A3 c2 c3 _ h2 h3 (by decide)).mono ?_
      rintro e w4 ⟨rfl, v0⟩
      replace ha := ha.below v0
      replace hb := hb.below v0
      replace h2 := h2.below v0
      replace hB := hB.trans (v0.mono hB.size)
      clear v0 h3
      go_wp2_with fail
      go_loopw [7] (fun i wr => i = .int .i64 0 ∧ wr = w4) (fun _ _ => 0)
      case atStart => exact ⟨rfl, rfl⟩
      case round =>
        obtain ⟨rfl, rfl⟩ := hrel
        go_wp2_with fail
        go_ret
        exact ⟨rfl, hB⟩
    have hd1 : ((0 : Int) != ((de.length : Nat) : Int)) = true := by
      have : 0 < de.length := List.length_pos_iff.mpr hd0
      simp; omega
    have hd2 : ¬ (0 : Int) = ((de.length : Nat) : Int) := by simpa using hd1
    clear hd0
    go_wp2_with fail
    refine (hW _ ha hb).mono ?_
    rintro e w3 ⟨A3, c3, rfl, h3, v0⟩
    replace h3 := h3.rd
    replace ha := ha.below v0
    replace hb := hb.below v0
    replace h2 := h2.below v0
    replace hB := hB.trans (v0.mono hB.size)
    clear v0
    go_wp2_with fail
    refine (equalInts_same [] A2 A3 c2 c3 _ h2 h3 (by decide)).mono ?_
    rintro e w4 ⟨rfl, v0⟩
    replace ha := ha.below v0
    replace hb := hb.below v0
    replace h2 := h2.below v0
    replace hB := hB.trans (v0.mono hB.size)
    clear v0 h3
    go_wp2_with fail
    refine (hW _ ha hb).mono ?_
    rintro e w5 ⟨A3, c3, rfl, h3, v0⟩
    replace h3 := h3.rd
    replace ha := ha.below v0
    replace hb := hb.below v0
    replace h2 := h2.below v0
    replace hB := hB.trans (v0.mono hB.size)
    clear v0
    go_wp2_with fail
    refine (equalInts_same [] A2 A3 c2 c3 _ h2 h3 (by decide)).mono ?_
    rintro e w6 ⟨rfl, v0⟩
    replace ha := ha.below v0
    replace hb := hb.below v0
    replace h2 := h2.below v0
    replace hB := hB.trans (v0.mono hB.size)
    clear v0 h3
    go_wp2_with fail
    go_ret
    exact ⟨rfl, hB⟩
  | true =>
  have hL : qs.length = de.length := by rw [Hqs.out]; exact splitF_len hv
  obtain ⟨p1, p2, p3, p4, p5, p6⟩ := validS_parts hv
  have hn1 : 1 ≤ qs.length := by omega
  have hld : de.length ≤ 5 := by omega
  have hll : le.length ≤ 5 := by omega
  have HL := Lib.hid hL
  have HLe := Lib.hid (show le.length = qs.length by omega)
  have Hv := Lib.hid hv
  have hq1 : (((qs.length : Nat) : Int) == 0) = false := beq_eq_false_iff_ne.mpr (by omega)
  have hq0 : ((qs.length : Nat) : Int) ≠ 0 := by omega
  have hne : (((qs.length : Nat) : Int) != ((de.length : Nat) : Int)) = false := by simp [hL]
  have hSq : Small qs := by rw [Hqs.out]; exact small_split hv
  have hSd : Small de := small_allB p4 (by omega) (by omega) (by omega)
  have hSl : Small le := small_allB p5 (by omega) (by omega) (by omega)
  have Hord := Lib.hid (fun i k (hi : i < de.length) (hk : k < de.length) => split_order hv hi hk)
  clear hL hv p1 p2 p3 p4 p5 p6
  go_wp2_with fail
  refine (hW _ ha hb).mono ?_
  rintro e w3 ⟨A3, c3, rfl, h3, v0⟩
  replace h3 := h3.rd
  replace ha := ha.below v0
  replace hb := hb.below v0
  replace h2 := h2.below v0
  replace hB := hB.trans (v0.mono hB.size)
  clear v0
  go_wp2_with fail
  refine (equalInts_same qs A2 A3 c2 c3 _ h2 h3 (by omega)).mono ?_
  rintro e w4 ⟨rfl, v0⟩
  replace ha := ha.below v0
  replace hb := hb.below v0
  replace h2 := h2.below v0
  replace hB := hB.trans (v0.mono hB.size)
  clear v0 h3
  go_wp2_with fail
  go_loopw [7] (fun i wr => ∃ k : Nat, k ≤ qs.length ∧ i = .int .i64 k ∧ ∃ m, wr = w4.drewN m) (fun i _ => qs.length - (intOf i).toNat)
  case atStart => exact ⟨0, Nat.zero_le _, rfl, 0, rfl⟩
  case round =>
    obtain ⟨i, hi, rfl, m, rfl⟩ := hrel
    by_cases hlt : i < qs.length
    · go_wp2_with fail
      go_loopw [8] (fun j wr => ∃ k : Nat, k ≤ qs.length ∧ j = .int .i64 k ∧ ∃ m, wr = w4.drewN m) (fun i _ => qs.length - (intOf i).toNat)
      case atStart => exact ⟨0, Nat.zero_le _, rfl, m, rfl⟩
      case round =>
        clear m
        obtain ⟨k, hk, rfl, m, rfl⟩ := hrel
        by_cases hlt2 : k < qs.length
        · have hid : i < de.length := by have := HL.out; omega
          have hkd : k < de.length := by have := HL.out; omega
          have hil : i < le.length := by have := HLe.out; omega
          have hkl : k < le.length := by have := HLe.out; omega
          obtain ⟨b1, o1, rfl, ci1⟩ := ha.at hid
          obtain ⟨b1', o1', e, ck1⟩ := ha.at hkd
          injection e with e
          injection e with e e'
          subst e e'
          obtain ⟨b2, o2, rfl, ci2⟩ := hb.at hil
          obtain ⟨b2', o2', e, ck2⟩ := hb.at hkl
          injection e with e
          injection e with e e'
          subst e e'
          obtain ⟨b3, o3, rfl, ci3⟩ := h2.at hlt
          obtain ⟨b3', o3', e, ck3⟩ := h2.at hlt2
          injection e with e
          injection e with e e'
          subst e e'
          have ho := Hord.out i k hid hkd
          rw [← Hqs.out, ← ga_at hid, ← ga_at hkd, ← ga_at hil, ← ga_at hkl, ← ga_at hlt, ← ga_at hlt2] at ho
          simp only [fI] at ci1 ck1 ci2 ck2 ci3 ck3
          generalize de[i] = x1 at *
          generalize de[k] = y1 at *
          generalize le[i] = x2 at *
          generalize le[k] = y2 at *
          generalize qs[i] = x3 at *
          generalize qs[k] = y3 at *
          by_cases g1 : y1 < x1
          · have d1 : decide (y1 < x1) = true := decide_eq_true g1
            by_cases g2 : x2 = y2
            · have d2 : (x2 == y2) = true := by simpa using g2
              have d3 : decide (x3 < y3) = false := decide_eq_false (by have := ho g1 g2; omega)
              clear ho g2
              go_wp2_with fail
              go_quiet (fail)
              go_wp2_with fail
              go_roundw
              case rel => exact ⟨k + 1, by omega, by go_num, _, rfl⟩
              case measure => simp [intOf]; omega
            · have d2 : (x2 == y2) = false := by simpa using g2
              clear ho
              go_wp2_with fail
              go_quiet (fail)
              go_wp2_with fail
              go_roundw
              case rel => exact ⟨k + 1, by omega, by go_num, _, rfl⟩
              case measure => simp [intOf]; omega
          · have d1 : decide (y1 < x1) = false := decide_eq_false g1
            clear ho
            go_wp2_with fail
            go_quiet (fail)
            go_wp2_with fail
            go_roundw
            case rel => exact ⟨k + 1, by omega, by go_num, _, rfl⟩
            case measure => simp [intOf]; omega
        · go_wp2_with fail
          go_roundw
          case rel => exact ⟨i + 1, by omega, by go_num, _, rfl⟩
          case measure => simp [intOf]; omega
    · go_wp2_with fail
      go_ret
      exact ⟨rfl, below_drewN hB _⟩

set_option maxRecDepth 100000 in
theorem lifted (os : Os) (started : os.Started) (H : Type) (enc : TypeId × Value → H) :
    ReturnsInHanded {} Try.checked os 7 .any (Rows.fnSplitGreensOrderSpec.pre6 enc Try.prog Try.f7 Rows.fnSplitGreensOrderRow.domain false) (Rows.fnSplitGreensOrderSpec.post enc Try.prog Try.f7 false true false false) := by
  refine returnsInHanded_of_change (C := Try.checked) own started (by kernel_rfl) Try.func7
    (ChangeSpec.witness6 (enc := enc) (C := Try.checked) false ⟨#[], #[.slice none 0 0], []⟩ 8 (by kernel_rfl) (by kernel_rfl) (by kernel_rfl) (by kernel_rfl)) ?_
  intro W base args ds gs before hval0 hW hcnd _
  have hval : ∀ (j : Nat) t v, Try.f7.params[j]? = some t → args[j]? = some v → Value.okWide Try.prog W .any base t v := hval0
  have hW' := hW
  obtain ⟨p, q, hA0, hV, rfl, hfz, hnd⟩ := hW
  have hA : DataW.TrodAll enc Try.prog W 0 (fun _ => true) true Try.f7.params.toList args.toList ds p := hA0
  rw [Try.params7] at hA hval
  obtain ⟨v0, vs0, d0, ds0, p0, q0, hargs, rfl, rfl, h0, r0⟩ := trodAll_cons hA
  obtain ⟨rfl, rfl, rfl⟩ := trodAll_nil r0
  obtain rfl : args = #[v0] := by cases args; simp_all
  obtain ⟨rfl, rfl⟩ := trodVars_none hV
  have k0 := h0
  have lt0 : ∀ x ∈ p0, x.block < W.heap.size := by obtain ⟨m, hm⟩ := k0; exact DataW.trod_lt m _ _ _ hm
  obtain ⟨a0, len0, cap0, rfl⟩ := okWide_slice Try.underlying27 (hval 0 27 v0 rfl rfl)
  obtain ⟨w0, hc0⟩ := open_bytes Try.underlying27 Try.underlying5 (by kernel_rfl) h0
  clear hA0 hval0
  refine (walk a0 len0 cap0 W w0 hc0).mono fun e W' ⟨he, bel⟩ => ?_
  subst he
  exact ⟨_, rfl, _, _, _, [], _, [], hW', trodAll_mk1 (shut_bool Try.underlying4 _), (trodAll_cons_mk (Below.trod laidOut (by kernel_rfl) (of_decide_eq_true (by kernel_rfl)) k0 bel lt0) trodAll_mk0), rfl, bel.frame _, fun h => by cases h⟩

theorem over : Rows.fnSplitGreensOrderRow.holds Try.pinned (OpenSpec.ofChange Rows.fnSplitGreensOrderSpec) :=
  OpenClaim.holds_of_wide 7 Try.f7 rfl rfl rfl rfl rfl rfl rfl ⟨rfl, rfl, rfl, rfl, rfl⟩ rfl rfl rfl rfl rfl (by kernel_rfl) Try.func7 (by kernel_rfl)
    (of_decide_eq_true (by kernel_rfl)) (by unfold Func.isWrapper; first | (rw [if_pos (by decide +kernel)]; kernel_rfl) | (rw [if_neg (by decide +kernel)]; exact ⟨rfl, rfl⟩))
    (fun os started H enc _ => lifted os started H enc)

theorem proved : Rows.FnSplitGreensOrderSaid := over
end Go.Proofs.Ytknddadgmbkpnaa.FnSplitGreensOrder
