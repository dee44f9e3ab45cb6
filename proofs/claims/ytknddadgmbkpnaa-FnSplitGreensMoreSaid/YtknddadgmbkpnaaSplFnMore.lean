/-
  The statement FnSplitGreensMore.
-/
import Derived.Test.YtknddadgmbkpnaaOpen
import Derived.Test.YtknddadgmbkpnaaSplImpl
import Derived.Test.YtknddadgmbkpnaaSplDraw
namespace Go.Proofs.Ytknddadgmbkpnaa.FnSplitGreensMore
open Go.RowKit Go.ChangeShapes Go.WideShapes Go.ChangeAt Go.Proofs.Ytknddadgmbkpnaa
set_option linter.unusedVariables false

def more (a b : List Int) (k : Nat) : Bool := (List.range k).any fun j => decide (ga a j < ga b j)
theorem more_succ (a b : List Int) (k : Nat) : more a b (k + 1) = (more a b k || decide (ga a k < ga b k)) := by
  simp [more, List.range_succ]

set_option maxHeartbeats 6400000 in
theorem walk (A : Option Addr) (len cap : Nat) (w : World) (h : Bytes w A len) (hc : len ≤ cap) :
    Calls Try.prog 10 #[.slice A len cap] w fun e w' => e = .returned (.bool true) ∧ Below w.heap.size w w' := by
  by_cases hl1 : 1048576 < len
  · go_enter Try.func10, Try.ntmps10
    go_wp2_with fail
    go_ret
    exact ⟨rfl, Below.refl _ _⟩
  go_enter Try.func10, Try.ntmps10
  go_wp2_with fail
  refine (drawS_any _ A len cap h hc).mono ?_
  rintro e w1 ⟨total, de, le, A1, B1, c1, d1, rfl, ha, hb, hla, hlb, hB⟩
  replace ha := ha.rd
  replace hb := hb.rd
  clear h
  have hQ : (splitF total de le).length ≤ 5 := by
    cases hv : validS total de le with
    | true =>
      have h1 := splitF_len hv
      have h2 := (validS_parts hv).2.1
      omega
    | false => simp [splitF, hv]
  obtain ⟨qs, hqs⟩ : ∃ qs, qs = splitF total de le := ⟨_, rfl⟩
  have hI := fun w ha hb => iSplit_any total de le A1 B1 c1 d1 w ha hb (by omega) (by omega)
  have hW := fun w ha hb => sSplit_any total de le A1 B1 c1 d1 w ha hb (by omega) (by omega)
  rw [← hqs] at hI hW hQ
  have Hqs := Lib.hid hqs
  clear hqs
  go_wp2_with fail
  refine (hI _ ha hb).mono ?_
  rintro e w2 ⟨A2, c2, rfl, h2, v0⟩
  replace h2 := h2.rd
  replace ha := ha.below v0
  replace hb := hb.below v0
  replace hB := hB.trans (v0.mono hB.size)
  clear v0 hI
  cases hv : validS total de le with
  | false =>
    have hq : qs = [] := by rw [Hqs.out]; simp [splitF, hv]
    rw [hq] at h2 hW ⊢
    clear hq hQ hv
    simp only [List.length_nil] at h2 hW ⊢
    go_wp2_with fail
    refine (hW _ ha hb).mono ?_
    rintro e w3 ⟨A3, c3, rfl, h3, v0⟩
    replace h3 := h3.rd
    replace ha := ha.below v0
    replace hb := hb.below v0
    replace h2 := h2.below v0
    replace hB := hB.trans (v0.mono hB.size)
    clear v0
    go_wp2_with fail
    refine (equalInts_same [] A2 A3 c2 c3 _ h2 h3 (by decide)).mono ?_
    rintro e w4 ⟨rfl, v0⟩
    replace ha := ha.below v0
    replace hb := hb.below v0
    replace h2 := h2.below v0
    replace hB := hB.trans (v0.mono hB.size)
    clear v0 h3
    go_wp2_with fail
    refine (hW _ ha hb).mono ?_
    rintro e w5 ⟨A3, c3, rfl, h3, v0⟩
    replace h3 := h3.rd
    replace ha := ha.below v0
    replace hb := hb.below v0
    replace h2 := h2.below v0
    replace hB := hB.trans (v0.mono hB.size)
    clear v0
    go_wp2_with fail
    refine (equalInts_same [] A2 A3 c2 c3 _ h2 h3 (by decide)).mono ?_
    rintro e w6 ⟨rfl, v0⟩
    replace ha := ha.below v0
    replace hb := hb.below v0
    replace h2 := h2.below v0
    replace hB := hB.trans (v0.mono hB.size)
    clear v0 h3
    go_wp2_with fail
    go_ret
    exact ⟨rfl, hB⟩
  | true =>
  have hL : qs.length = de.length := by rw [Hqs.out]; exact splitF_len hv
  obtain ⟨p1, p2, p3, p4, p5, p6⟩ := validS_parts hv
  have hn1 : 1 ≤ qs.length := by omega
  have hld : de.length ≤ 5 := by omega
  have hll : le.length ≤ 5 := by omega
  have HL := Lib.hid hL
  have HLe := Lib.hid (show le.length = qs.length by omega)
  have Hv := Lib.hid hv
  have hq1 : (((qs.length : Nat) : Int) == 0) = false := beq_eq_false_iff_ne.mpr (by omega)
  have hq0 : ((qs.length : Nat) : Int) ≠ 0 := by omega
  have hne : (((qs.length : Nat) : Int) != ((de.length : Nat) : Int)) = false := by simp [hL]
  have hSq : Small qs := by rw [Hqs.out]; exact small_split hv
  have hSd : Small de := small_allB p4 (by omega) (by omega) (by omega)
  have hSl : Small le := small_allB p5 (by omega) (by omega) (by omega)
  clear hL hv p1 p2 p3 p4 p5 p6
  by_cases ht : total = 180
  · subst ht
    go_wp2_with fail
    refine (hW _ ha hb).mono ?_
    rintro e w3 ⟨A3, c3, rfl, h3, v0⟩
    replace h3 := h3.rd
    replace ha := ha.below v0
    replace hb := hb.below v0
    replace h2 := h2.below v0
    replace hB := hB.trans (v0.mono hB.size)
    clear v0
    go_wp2_with fail
    refine (equalInts_same qs A2 A3 c2 c3 _ h2 h3 (by omega)).mono ?_
    rintro e w4 ⟨rfl, v0⟩
    replace ha := ha.below v0
    replace hb := hb.below v0
    replace h2 := h2.below v0
    replace hB := hB.trans (v0.mono hB.size)
    clear v0 h3
    go_wp2_with fail
    refine (hW _ ha hb).mono ?_
    rintro e w5 ⟨A3, c3, rfl, h3, v0⟩
    replace h3 := h3.rd
    replace ha := ha.below v0
    replace hb := hb.below v0
    replace h2 := h2.below v0
    replace hB := hB.trans (v0.mono hB.size)
    clear v0
    go_wp2_with fail
    refine (equalInts_same qs A2 A3 c2 c3 _ h2 h3 (by omega)).mono ?_
    rintro e w6 ⟨rfl, v0⟩
    replace ha := ha.below v0
    replace hb := hb.below v0
    replace h2 := h2.below v0
    replace hB := hB.trans (v0.mono hB.size)
    clear v0 h3
    go_wp2_with fail
    go_ret
    exact ⟨rfl, hB⟩
  have ht1 : (total == 180) = false := by simpa using ht
  have hv2 := validS_more Hv.out ht
  have hQ2 : (splitF (total + 1) de le).length ≤ 5 := by
    have h1 := splitF_len hv2
    omega
  obtain ⟨rs, hrs⟩ : ∃ rs, rs = splitF (total + 1) de le := ⟨_, rfl⟩
  have hJ := fun w ha hb => iSplit_any (total + 1) de le A1 B1 c1 d1 w ha hb (by omega) (by omega)
  rw [← hrs] at hJ hQ2
  have hR : rs.length = qs.length := by rw [hrs, splitF_len hv2, HL.out]
  have HR := Lib.hid hR
  have hSr : Small rs := by rw [hrs]; exact small_split hv2
  have Hsum := Lib.hid (show sumL rs = total + 1 by rw [hrs]; exact split_sum hv2)
  have Hsome : Hid (more qs rs qs.length = true) := Lib.hid (by
    obtain ⟨i, hi, hlt⟩ := split_more_some Hv.out hv2
    rw [← Hqs.out, ← hrs] at hlt
    exact List.any_eq_true.mpr ⟨i, List.mem_range.mpr (by rw [HL.out]; exact hi), decide_eq_true hlt⟩)
  have htb : 0 ≤ total ∧ total ≤ 180 := (validS_parts Hv.out).1
  clear hrs hR hv2 ht
  go_wp2_with fail
  refine (hW _ ha hb).mono ?_
  rintro e w3 ⟨A3, c3, rfl, h3, v0⟩
  replace h3 := h3.rd
  replace ha := ha.below v0
  replace hb := hb.below v0
  replace h2 := h2.below v0
  replace hB := hB.trans (v0.mono hB.size)
  clear v0
  go_wp2_with fail
  refine (equalInts_same qs A2 A3 c2 c3 _ h2 h3 (by omega)).mono ?_
  rintro e w4 ⟨rfl, v0⟩
  replace ha := ha.below v0
  replace hb := hb.below v0
  replace h2 := h2.below v0
  replace hB := hB.trans (v0.mono hB.size)
  clear v0 h3
  go_wp2_with fail
  refine (hJ _ ha hb).mono ?_
  rintro e w5 ⟨A5, c5, rfl, h5, v0⟩
  replace h5 := h5.rd
  replace h2 := h2.below v0
  replace hB := hB.trans (v0.mono hB.size)
  clear v0 hJ ha hb hW
  go_wp2_with fail
  go_loopw [8, 9] (fun b i wr => ∃ k : Nat, k ≤ qs.length ∧ i = .int .i64 k ∧ b = .bool (more qs rs k) ∧ ∃ m, wr = w5.drewN m) (fun _ i _ => qs.length - (intOf i).toNat)
  case atStart => exact ⟨0, Nat.zero_le _, rfl, rfl, 0, rfl⟩
  case round =>
    obtain ⟨k, hk, rfl, rfl, m, rfl⟩ := hrel
    by_cases hlt : k < qs.length
    · have hlt2 : k < rs.length := by have := HR.out; omega
      obtain ⟨b1, o1, rfl, hcl⟩ := h5.at hlt2
      obtain ⟨b2, o2, rfl, hcq⟩ := h2.at hlt
      have hm := more_succ qs rs k
      rw [← ga_at hlt, ← ga_at hlt2] at hm
      have Hm := Lib.hid hm
      clear hm
      generalize rs[k] = x at *
      generalize qs[k] = y at *
      simp only [fI] at hcl hcq
      cases hb : more qs rs k with
      | true =>
        go_wp2_with fail
        go_quiet (fail)
        go_wp2_with fail
        go_roundw
        case rel => exact ⟨k + 1, by omega, by go_num, by rw [Hm.out, hb]; rfl, _, rfl⟩
        case measure => simp [intOf]; omega
      | false =>
        go_wp2_with fail
        go_quiet (fail)
        go_wp2_with fail
        go_roundw
        case rel => exact ⟨k + 1, by omega, by go_num, by rw [Hm.out, hb]; rfl, _, rfl⟩
        case measure => simp [intOf]; omega
    · obtain rfl : k = qs.length := by omega
      have h5' := h5.below (below_drewN (Below.refl _ _) m)
      have hkr : ((qs.length : Nat) : Int) ≤ ((qs.length : Nat) : Int) := Int.le_refl _
      rw [Hsome.out]
      go_wp2_with fail
      all_goals
        refine (sumL_any rs A5 c5 _ h5' hSr).mono ?_
        rintro e w9 ⟨rfl, rfl⟩
        rw [Hsum.out]
        go_wp2_with fail
        go_ret
        exact ⟨ret_bool (by simp), below_drewN hB _⟩

set_option maxRecDepth 100000 in
theorem lifted (os : Os) (started : os.Started) (H : Type) (enc : TypeId × Value → H) :
    ReturnsInHanded {} Try.checked os 10 .any (Rows.fnSplitGreensMoreSpec.pre6 enc Try.prog Try.f10 Rows.fnSplitGreensMoreRow.domain false) (Rows.fnSplitGreensMoreSpec.post enc Try.prog Try.f10 false true false false) := by
  refine returnsInHanded_of_change (C := Try.checked) own started (by kernel_rfl) Try.func10
    (ChangeSpec.witness6 (enc := enc) (C := Try.checked) false ⟨#[], #[.slice none 0 0], []⟩ 8 (by kernel_rfl) (by kernel_rfl) (by kernel_rfl) (by kernel_rfl)) ?_
  intro W base args ds gs before hval0 hW hcnd _
  have hval : ∀ (j : Nat) t v, Try.f10.params[j]? = some t → args[j]? = some v → Value.okWide Try.prog W .any base t v := hval0
  have hW' := hW
  obtain ⟨p, q, hA0, hV, rfl, hfz, hnd⟩ := hW
  have hA : DataW.TrodAll enc Try.prog W 0 (fun _ => true) true Try.f10.params.toList args.toList ds p := hA0
  rw [Try.params10] at hA hval
  obtain ⟨v0, vs0, d0, ds0, p0, q0, hargs, rfl, rfl, h0, r0⟩ := trodAll_cons hA
  obtain ⟨rfl, rfl, rfl⟩ := trodAll_nil r0
  obtain rfl : args = #[v0] := by cases args; simp_all
  obtain ⟨rfl, rfl⟩ := trodVars_none hV
  have k0 := h0
  have lt0 : ∀ x ∈ p0, x.block < W.heap.size := by obtain ⟨m, hm⟩ := k0; exact DataW.trod_lt m _ _ _ hm
  obtain ⟨a0, len0, cap0, rfl⟩ := okWide_slice Try.underlying27 (hval 0 27 v0 rfl rfl)
  obtain ⟨w0, hc0⟩ := open_bytes Try.underlying27 Try.underlying5 (by kernel_rfl) h0
  clear hA0 hval0
  refine (walk a0 len0 cap0 W w0 hc0).mono fun e W' ⟨he, bel⟩ => ?_
  subst he
  exact ⟨_, rfl, _, _, _, [], _, [], hW', trodAll_mk1 (shut_bool Try.underlying4 _), (trodAll_cons_mk (Below.trod laidOut (by kernel_rfl) (of_decide_eq_true (by kernel_rfl)) k0 bel lt0) trodAll_mk0), rfl, bel.frame _, fun h => by cases h⟩

theorem over : Rows.fnSplitGreensMoreRow.holds Try.pinned (OpenSpec.ofChange Rows.fnSplitGreensMoreSpec) :=
  OpenClaim.holds_of_wide 10 Try.f10 rfl rfl rfl rfl rfl rfl rfl ⟨rfl, rfl, rfl, rfl, rfl⟩ rfl rfl rfl rfl rfl (by kernel_rfl) Try.func10 (by kernel_rfl)
    (of_decide_eq_true (by kernel_rfl)) (by unfold Func.isWrapper; first | (rw [if_pos (by decide +kernel)]; kernel_rfl) | (rw [if_neg (by decide +kernel)]; exact ⟨rfl, rfl⟩))
    (fun os started H enc _ => lifted os started H enc)

theorem proved : Rows.FnSplitGreensMoreSaid := over
end Go.Proofs.Ytknddadgmbkpnaa.FnSplitGreensMore
