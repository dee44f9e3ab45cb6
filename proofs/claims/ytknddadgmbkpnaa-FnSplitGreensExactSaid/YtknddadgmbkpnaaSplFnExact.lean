/-
  The statement FnSplitGreensExact.
-/
import Derived.Test.YtknddadgmbkpnaaOpen
import Derived.Test.YtknddadgmbkpnaaSplImpl
import Derived.Test.YtknddadgmbkpnaaSplDraw
namespace Go.Proofs.Ytknddadgmbkpnaa.FnSplitGreensExact
open Go.RowKit Go.ChangeShapes Go.WideShapes Go.ChangeAt Go.Proofs.Ytknddadgmbkpnaa
set_option linter.unusedVariables false

theorem sumL_nn {l : List Int} (h : allB l 0 180 = true) : 0 ≤ sumL l := by
  induction l with
  | nil => simp [sumL]
  | cons x l ih =>
    simp only [allB, List.all_cons, Bool.and_eq_true] at h
    have := ih h.2
    have h9 := h.1
    simp [inB] at h9
    rw [sumL_cons]; omega
theorem split_bd {total : Int} {de le : List Int} (h : validS total de le = true) {z : Int} (hz : z ∈ splitF total de le) : 0 ≤ z ∧ z ≤ 400 := by
  have hl := splitF_len h
  obtain ⟨h1, h2, h3, h4, h5, h6⟩ := validS_parts h
  obtain ⟨i, hi, rfl⟩ := List.getElem_of_mem hz
  rw [ga_at hi, splitF_ga h (by omega)]
  have hF : 0 ≤ freeS total le := by unfold freeS; omega
  have hF2 : freeS total le ≤ 180 := by have := sumL_nn h5; unfold freeS; omega
  have hg : ∀ j, j < le.length → 0 ≤ ga le j ∧ ga le j ≤ 180 := fun j hj => by
    have := allB_at h5 hj
    rwa [ga_at hj] at this
  have g1 := hg i (by omega)
  have g0 := hg 0 (by omega)
  split
  · split <;> omega
  · rename_i h0
    obtain ⟨hD, _⟩ := luck_facts h h0
    have hd := de_bd h (show i < de.length by omega)
    have := shq_bd (freeS total le) (sumL de) de i hD hF hd.1 hd.2
    split <;> omega

set_option maxHeartbeats 6400000 in
theorem walk (A : Option Addr) (len cap : Nat) (w : World) (h : Bytes w A len) (hc : len ≤ cap) :
    Calls Try.prog 9 #[.slice A len cap] w fun e w' => e = .returned (.bool true) ∧ Below w.heap.size w w' := by
  by_cases hl1 : 1048576 < len
  · go_enter Try.func9, Try.ntmps9
    go_wp2_with fail
    go_ret
    exact ⟨rfl, Below.refl _ _⟩
  go_enter Try.func9, Try.ntmps9
  go_wp2_with fail
  refine (drawS_any _ A len cap h hc).mono ?_
  rintro e w1 ⟨total, de, le, A1, B1, c1, d1, rfl, ha, hb, hla, hlb, hB⟩
  replace ha := ha.rd
  replace hb := hb.rd
  clear h
  have hQ : (splitF total de le).length ≤ 5 := by
    cases hv : validS total de le with
    | true =>
      have h1 := splitF_len hv
      have h2 := (validS_parts hv).2.1
      omega
    | false => simp [splitF, hv]
  obtain ⟨qs, hqs⟩ : ∃ qs, qs = splitF total de le := ⟨_, rfl⟩
  have hI := fun w ha hb => iSplit_any total de le A1 B1 c1 d1 w ha hb (by omega) (by omega)
  have hW := fun w ha hb => sSplit_any total de le A1 B1 c1 d1 w ha hb (by omega) (by omega)
  rw [← hqs] at hI hW hQ
  have Hqs := Lib.hid hqs
  clear hqs
  go_wp2_with fail
  refine (hI _ ha hb).mono ?_
  rintro e w2 ⟨A2, c2, rfl, h2, v0⟩
  replace h2 := h2.rd
  replace ha := ha.below v0
  replace hb := hb.below v0
  replace hB := hB.trans (v0.mono hB.size)
  clear v0 hI
  cases hv : validS total de le with
  | false =>
    have hq : qs = [] := by rw [Hqs.out]; simp [splitF, hv]
    rw [hq] at h2 hW ⊢
    clear hq hQ hv
    simp only [List.length_nil] at h2 hW ⊢
    by_cases hd0 : de = []
    · subst hd0
      have hs0 : sumL [] = 0 := rfl
      have hcon := fun w ha => sumL_any [] A1 c1 w ha ⟨by simp, by simp⟩
      simp only [List.length_nil] at hcon hW ⊢
      rw [hs0] at hcon
      go_wp2_with fail
      refine (hW _ ha hb).mono ?_
      rintro e w3 ⟨A3, c3, rfl, h3, v0⟩
      replace h3 := h3.rd
      replace ha := ha.below v0
      replace hb := hb.below v0
      replace h2 := h2.below v0
      replace hB := hB.trans (v0.mono hB.size)
      clear v0
      go_wp2_with fail
      refine (equalInts_same [] A2 A3 c2 c3 _ h2 h3 (by decide)).mono ?_
      rintro e w4 ⟨rfl, v0⟩
      replace ha := ha.below v0
      replace hb := hb.below v0
      replace h2 := h2.below v0
      replace hB := hB.trans (v0.mono hB.size)
      clear v0 h3
      go_wp2_with fail
      refine (hcon _ ha).mono ?_
      rintro e w9 ⟨rfl, rfl⟩
      go_wp2_with fail
      refine (hW _ ha hb).mono ?_
      rintro e w5 ⟨A3, c3, rfl, h3, v0⟩
      replace h3 := h3.rd
      replace ha := ha.below v0
      replace hb := hb.below v0
      replace h2 := h2.below v0
      replace hB := hB.trans (v0.mono hB.size)
      clear v0
      go_wp2_with fail
      refine (equalInts_same [] A2 A3 c2 c3 _ h2 h3 (by decide)).mono ?_
      rintro e w6 ⟨rfl, v0⟩
      replace ha := ha.below v0
      replace hb := hb.below v0
      replace h2 := h2.below v0
      replace hB := hB.trans (v0.mono hB.size)
      clear v0 h3
      go_wp2_with fail
      go_ret
      exact ⟨rfl, hB⟩
    have hd1 : ((0 : Int) != ((de.length : Nat) : Int)) = true := by
      have : 0 < de.length := List.length_pos_iff.mpr hd0
      simp; omega
    have hd2 : ¬ (0 : Int) = ((de.length : Nat) : Int) := by simpa using hd1
    clear hd0
    go_wp2_with fail
    refine (hW _ ha hb).mono ?_
    rintro e w3 ⟨A3, c3, rfl, h3, v0⟩
    replace h3 := h3.rd
    replace ha := ha.below v0
    replace hb := hb.below v0
    replace h2 := h2.below v0
    replace hB := hB.trans (v0.mono hB.size)
    clear v0
    go_wp2_with fail
    refine (equalInts_same [] A2 A3 c2 c3 _ h2 h3 (by decide)).mono ?_
    rintro e w4 ⟨rfl, v0⟩
    replace ha := ha.below v0
    replace hb := hb.below v0
    replace h2 := h2.below v0
    replace hB := hB.trans (v0.mono hB.size)
    clear v0 h3
    go_wp2_with fail
    refine (hW _ ha hb).mono ?_
    rintro e w5 ⟨A3, c3, rfl, h3, v0⟩
    replace h3 := h3.rd
    replace ha := ha.below v0
    replace hb := hb.below v0
    replace h2 := h2.below v0
    replace hB := hB.trans (v0.mono hB.size)
    clear v0
    go_wp2_with fail
    refine (equalInts_same [] A2 A3 c2 c3 _ h2 h3 (by decide)).mono ?_
    rintro e w6 ⟨rfl, v0⟩
    replace ha := ha.below v0
    replace hb := hb.below v0
    replace h2 := h2.below v0
    replace hB := hB.trans (v0.mono hB.size)
    clear v0 h3
    go_wp2_with fail
    go_ret
    exact ⟨rfl, hB⟩
  | true =>
  have hL : qs.length = de.length := by rw [Hqs.out]; exact splitF_len hv
  obtain ⟨p1, p2, p3, p4, p5, p6⟩ := validS_parts hv
  have hn1 : 1 ≤ qs.length := by omega
  have hld : de.length ≤ 5 := by omega
  have hll : le.length ≤ 5 := by omega
  have HL := Lib.hid hL
  have HLe := Lib.hid (show le.length = qs.length by omega)
  have Hv := Lib.hid hv
  have hq1 : (((qs.length : Nat) : Int) == 0) = false := beq_eq_false_iff_ne.mpr (by omega)
  have hq0 : ((qs.length : Nat) : Int) ≠ 0 := by omega
  have hne : (((qs.length : Nat) : Int) != ((de.length : Nat) : Int)) = false := by simp [hL]
  have hSq : Small qs := by rw [Hqs.out]; exact small_split hv
  have hSd : Small de := small_allB p4 (by omega) (by omega) (by omega)
  have hSl : Small le := small_allB p5 (by omega) (by omega) (by omega)
  have Hex := Lib.hid (fun (h0 : sumL de ≠ 0) i (hi : i < de.length) => split_exact hv h0 hi)
  have hD := sum_nonneg p4 de.length (Nat.le_refl _)
  rw [List.take_length] at hD
  have hF : 0 ≤ freeS total le ∧ freeS total le ≤ 180 := by
    have := (sumL_nn p5)
    unfold freeS; omega
  have hSLb : 0 ≤ sumL le ∧ sumL le ≤ 180 := ⟨sumL_nn p5, by omega⟩
  have Hgd := Lib.hid (fun i (hi : i < de.length) => allB_at p4 hi)
  have Hgl := Lib.hid (fun i (hi : i < le.length) => allB_at p5 hi)
  have Hgq := Lib.hid (fun z (hz : z ∈ qs) => (show 0 ≤ z ∧ z ≤ 400 from by rw [Hqs.out] at hz; exact split_bd hv hz))
  have htb : 0 ≤ total ∧ total ≤ 180 := p1
  clear hL hv p1 p2 p3 p4 p5 p6
  go_wp2_with fail
  refine (hW _ ha hb).mono ?_
  rintro e w3 ⟨A3, c3, rfl, h3, v0⟩
  replace h3 := h3.rd
  replace ha := ha.below v0
  replace hb := hb.below v0
  replace h2 := h2.below v0
  replace hB := hB.trans (v0.mono hB.size)
  clear v0
  go_wp2_with fail
  refine (equalInts_same qs A2 A3 c2 c3 _ h2 h3 (by omega)).mono ?_
  rintro e w4 ⟨rfl, v0⟩
  replace ha := ha.below v0
  replace hb := hb.below v0
  replace h2 := h2.below v0
  replace hB := hB.trans (v0.mono hB.size)
  clear v0 h3
  have hcd := fun w ha => sumL_any de A1 c1 w ha hSd
  have hcl := fun w hb => sumL_any le B1 d1 w hb hSl
  obtain ⟨D, hDe⟩ : ∃ D, D = sumL de := ⟨_, rfl⟩
  obtain ⟨F, hFe⟩ : ∃ F, F = freeS total le := ⟨_, rfl⟩
  have HFe : Hid (total - sumL le = F) := Lib.hid (by rw [hFe]; rfl)
  rw [← hDe] at hcd hD Hex
  rw [← hFe] at hF Hex
  clear hDe hFe hSd hSl hSq
  have hD5 : D ≤ 5000 := by omega
  go_wp2_with fail
  refine (hcd _ ha).mono ?_
  rintro e w9 ⟨rfl, rfl⟩
  by_cases hD0 : D = 0
  · have hDb : (D == 0) = true := by simpa using hD0
    go_wp2_with fail
    refine (hW _ ha hb).mono ?_
    rintro e w5 ⟨A3, c3, rfl, h3, v0⟩
    replace h3 := h3.rd
    replace ha := ha.below v0
    replace hb := hb.below v0
    replace h2 := h2.below v0
    replace hB := hB.trans (v0.mono hB.size)
    clear v0
    go_wp2_with fail
    refine (equalInts_same qs A2 A3 c2 c3 _ h2 h3 (by omega)).mono ?_
    rintro e w6 ⟨rfl, v0⟩
    replace ha := ha.below v0
    replace hb := hb.below v0
    replace h2 := h2.below v0
    replace hB := hB.trans (v0.mono hB.size)
    clear v0 h3
    go_wp2_with fail
    go_ret
    exact ⟨rfl, hB⟩
  have hDb : (D == 0) = false := by simpa using hD0
  go_wp2_with fail
  refine (hcl _ hb).mono ?_
  rintro e w9 ⟨rfl, rfl⟩
  obtain ⟨S0, hS0⟩ : ∃ S0, S0 = sumL le := ⟨_, rfl⟩
  rw [← hS0] at HFe hSLb
  simp only [← hS0]
  clear hS0 hcl
  go_wp2_with fail
  rw [HFe.out]
  go_loopw [8] (fun i wr => ∃ k : Nat, k ≤ qs.length ∧ i = .int .i64 k ∧ Below w4.heap.size w4 wr) (fun i _ => qs.length - (intOf i).toNat)
  case atStart => exact ⟨0, Nat.zero_le _, rfl, Below.refl _ _⟩
  case round =>
    obtain ⟨k, hk, rfl, hW4⟩ := hrel
    by_cases hlt : k < qs.length
    · have hkd : k < de.length := by have := HL.out; omega
      have hkl : k < le.length := by have := HLe.out; omega
      obtain ⟨b1, o1, rfl, ck1⟩ := (ha.below hW4).at hkd
      obtain ⟨b2, o2, rfl, ck2⟩ := (hb.below hW4).at hkl
      obtain ⟨b3, o3, rfl, ck3⟩ := (h2.below hW4).at hlt
      have hcd' := fun n => (hcd (wr.drewN n) (ha.below (below_drewN hW4 n))).mono (fun e w' (h : e = .returned (.int .i64 D) ∧ wr.drewN n = w') => (⟨h.1, h.2.symm⟩ : e = .returned (.int .i64 D) ∧ w' = wr.drewN n))
      have he := Hex.out hD0 k hkd
      rw [← Hqs.out, ← ga_at hkd, ← ga_at hkl, ← ga_at hlt] at he
      have q1 := Hgd.out k hkd
      have q2 := Hgl.out k hkl
      have q3 := Hgq.out qs[k] (List.getElem_mem hlt)
      simp only [fI] at ck1 ck2 ck3
      generalize de[k] = x at *
      generalize le[k] = y at *
      generalize qs[k] = z at *
      have m1 : -(400 * 5000) ≤ (z - y) * D ∧ (z - y) * D ≤ 400 * 5000 := by
        constructor
        · have := Int.mul_le_mul_of_nonneg_right (show -400 ≤ z - y by omega) (show 0 ≤ D by omega)
          omega
        · have := Int.mul_le_mul_of_nonneg_right (show z - y ≤ 400 by omega) (show 0 ≤ D by omega)
          omega
      have m2 : 0 ≤ F * x ∧ F * x ≤ 180 * 999 := by
        refine ⟨Int.mul_nonneg hF.1 q1.1, ?_⟩
        calc F * x ≤ 180 * x := Int.mul_le_mul_of_nonneg_right hF.2 q1.1
          _ ≤ _ := by omega
      have w1 : IntKind.i64.wrap (z - y) = z - y := by simp [IntKind.wrap, IntKind.bits, IntKind.signed]; omega
      obtain ⟨u, hu⟩ : ∃ u, u = (z - y) * D := ⟨_, rfl⟩
      obtain ⟨v, hv⟩ : ∃ v, v = F * x := ⟨_, rfl⟩
      obtain ⟨t, ht⟩ : ∃ t, t = z - y := ⟨_, rfl⟩
      rw [← hu] at m1 he
      rw [← hv] at m2 he
      rw [← ht] at hu w1
      have w2 : IntKind.i64.wrap u = u := by simp [IntKind.wrap, IntKind.bits, IntKind.signed]; omega
      have w3 : IntKind.i64.wrap v = v := by simp [IntKind.wrap, IntKind.bits, IntKind.signed]; omega
      have w5 : IntKind.i64.wrap (u - v) = u - v := by simp [IntKind.wrap, IntKind.bits, IntKind.signed]; omega
      have d1 : ¬ D ≤ u - v := by omega
      have d2 : ¬ D ≤ -(u - v) := by omega
      have ht' := ht.symm
      have hu' := hu.symm
      have hv' := hv.symm
      clear ht hu hv
      go_wp2_with fail
      go_quiet (first | (go_at_call 22; refine Calls.quiet_of_same (hcd' _)))
      have hc5 := hcd' nq
      clear hcd'
      have hWz := below_drewN hW4 nq
      generalize wr.drewN nq = wz at *
      go_wp2_with fail
      refine hc5.mono ?_
      rintro e w9 ⟨rfl, rfl⟩
      go_wp2_with fail
      refine hc5.mono ?_
      rintro e w9 ⟨rfl, rfl⟩
      go_wp2_with fail
      go_roundw
      case rel => exact ⟨k + 1, by omega, by go_num, hWz⟩
      case measure => simp [intOf]; omega
    · go_wp2_with fail
      go_ret
      exact ⟨rfl, hB.trans (hW4.mono hB.size)⟩

set_option maxRecDepth 100000 in
theorem lifted (os : Os) (started : os.Started) (H : Type) (enc : TypeId × Value → H) :
    ReturnsInHanded {} Try.checked os 9 .any (Rows.fnSplitGreensExactSpec.pre6 enc Try.prog Try.f9 Rows.fnSplitGreensExactRow.domain false) (Rows.fnSplitGreensExactSpec.post enc Try.prog Try.f9 false true false false) := by
  refine returnsInHanded_of_change (C := Try.checked) own started (by kernel_rfl) Try.func9
    (ChangeSpec.witness6 (enc := enc) (C := Try.checked) false ⟨#[], #[.slice none 0 0], []⟩ 8 (by kernel_rfl) (by kernel_rfl) (by kernel_rfl) (by kernel_rfl)) ?_
  intro W base args ds gs before hval0 hW hcnd _
  have hval : ∀ (j : Nat) t v, Try.f9.params[j]? = some t → args[j]? = some v → Value.okWide Try.prog W .any base t v := hval0
  have hW' := hW
  obtain ⟨p, q, hA0, hV, rfl, hfz, hnd⟩ := hW
  have hA : DataW.TrodAll enc Try.prog W 0 (fun _ => true) true Try.f9.params.toList args.toList ds p := hA0
  rw [Try.params9] at hA hval
  obtain ⟨v0, vs0, d0, ds0, p0, q0, hargs, rfl, rfl, h0, r0⟩ := trodAll_cons hA
  obtain ⟨rfl, rfl, rfl⟩ := trodAll_nil r0
  obtain rfl : args = #[v0] := by cases args; simp_all
  obtain ⟨rfl, rfl⟩ := trodVars_none hV
  have k0 := h0
  have lt0 : ∀ x ∈ p0, x.block < W.heap.size := by obtain ⟨m, hm⟩ := k0; exact DataW.trod_lt m _ _ _ hm
  obtain ⟨a0, len0, cap0, rfl⟩ := okWide_slice Try.underlying27 (hval 0 27 v0 rfl rfl)
  obtain ⟨w0, hc0⟩ := open_bytes Try.underlying27 Try.underlying5 (by kernel_rfl) h0
  clear hA0 hval0
  refine (walk a0 len0 cap0 W w0 hc0).mono fun e W' ⟨he, bel⟩ => ?_
  subst he
  exact ⟨_, rfl, _, _, _, [], _, [], hW', trodAll_mk1 (shut_bool Try.underlying4 _), (trodAll_cons_mk (Below.trod laidOut (by kernel_rfl) (of_decide_eq_true (by kernel_rfl)) k0 bel lt0) trodAll_mk0), rfl, bel.frame _, fun h => by cases h⟩

theorem over : Rows.fnSplitGreensExactRow.holds Try.pinned (OpenSpec.ofChange Rows.fnSplitGreensExactSpec) :=
  OpenClaim.holds_of_wide 9 Try.f9 rfl rfl rfl rfl rfl rfl rfl ⟨rfl, rfl, rfl, rfl, rfl⟩ rfl rfl rfl rfl rfl (by kernel_rfl) Try.func9 (by kernel_rfl)
    (of_decide_eq_true (by kernel_rfl)) (by unfold Func.isWrapper; first | (rw [if_pos (by decide +kernel)]; kernel_rfl) | (rw [if_neg (by decide +kernel)]; exact ⟨rfl, rfl⟩))
    (fun os started H enc _ => lifted os started H enc)

theorem proved : Rows.FnSplitGreensExactSaid := over
end Go.Proofs.Ytknddadgmbkpnaa.FnSplitGreensExact
