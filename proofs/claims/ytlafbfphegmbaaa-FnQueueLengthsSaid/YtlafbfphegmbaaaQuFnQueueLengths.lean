/-
  The statement FnQueueLengths: queues are cars that came and did not leave.
-/
import Derived.Test.YtlafbfphegmbaaaOpen
import Derived.Test.YtlafbfphegmbaaaDrList
import Derived.Test.YtlafbfphegmbaaaWaits
import Derived.Test.YtlafbfphegmbaaaQuLaw
namespace Go.Proofs.Ytlafbfphegmbaaa.FnQueueLengths
open Go.RowKit Go.ChangeShapes Go.WideShapes Go.ChangeAt Go.Proofs.Ytlafbfphegmbaaa
set_option linter.unusedVariables false

theorem small_of {ar : List Int} {gr : List Bool} (hv : validQ ar gr = true) : Small ar := by
  refine ⟨by have := validQ_len hv; omega, ?_⟩
  intro z hz
  obtain ⟨i, hi, rfl⟩ := List.getElem_of_mem hz
  have := validQ_few hv i
  rw [ga_at hi]
  omega

set_option maxHeartbeats 1600000 in
theorem walk (A : Option Addr) (len cap : Nat) (w : World) (h : Bytes w A len) (hc : len ≤ cap) :
    Calls Try.prog 10 #[.slice A len cap] w fun e w' => e = .returned (.bool true) ∧ Below w.heap.size w w' := by
  by_cases hl1 : 1048576 < len
  · go_enter Try.func10, Try.ntmps10
    go_wp2_with fail
    go_ret
    exact ⟨rfl, Below.refl _ _⟩
  go_enter Try.func10, Try.ntmps10
  go_wp2_with fail
  refine (drawQ_any _ A len cap h hc).mono ?_
  rintro e w1 ⟨ar, gr, A1, B1, c1, d1, rfl, ha, hb, hla, hlb, hsep, hB⟩
  replace ha := ha.rd
  replace hb := hb.rd
  have hz := hB.size
  have hQ : (queuesF ar gr).length ≤ 150 := by
    by_cases hv : validQ ar gr = true
    · have := validQ_len hv
      simp only [queuesF, hv, if_true, queuesTo_length]
      omega
    · simp [queuesF, hv]
  clear h hsep
  obtain ⟨qs, hqs⟩ : ∃ qs, qs = queuesF ar gr := ⟨_, rfl⟩
  have hI := fun w ha hb => iQueues_any ar gr A1 B1 c1 d1 w ha hb (by omega) (by omega)
  have hW := fun w ha hb => sQueues_any ar gr A1 B1 c1 d1 w ha hb (by omega) (by omega)
  rw [← hqs] at hQ hI hW
  go_wp2_with fail
  refine (hI _ ha hb).mono ?_
  rintro e w2 ⟨A2, c2, rfl, h2, b2⟩
  replace h2 := h2.rd
  replace ha := ha.below b2
  replace hb := hb.below b2
  replace hB := hB.trans (b2.mono hz)
  have hz2 := hB.size
  clear b2
  by_cases hq : qs = []
  · rw [hq] at h2 hW ⊢
    clear hq hQ hI hqs
    simp only [List.length_nil] at h2 hW ⊢
    go_wp2_with fail
    refine (hW _ ha hb).mono ?_
    rintro e w3 ⟨A3, c3, rfl, h3, b3⟩
    replace h3 := h3.rd
    replace ha := ha.below b3
    replace hb := hb.below b3
    replace h2 := h2.below b3
    replace hB := hB.trans (b3.mono hz2)
    have hz3 := hB.size
    clear b3
    go_wp2_with fail
    refine (equalInts_same [] A2 A3 c2 c3 _ h2 h3 (by decide)).mono ?_
    rintro e w4 ⟨rfl, b4⟩
    replace ha := ha.below b4
    replace hb := hb.below b4
    replace h2 := h2.below b4
    replace hB := hB.trans (b4.mono hz3)
    have hz4 := hB.size
    clear b4 h3
    go_wp2_with fail
    refine (hW _ ha hb).mono ?_
    rintro e w5 ⟨A5, c5, rfl, h5, b5⟩
    replace h5 := h5.rd
    replace h2 := h2.below b5
    replace hB := hB.trans (b5.mono hz4)
    have hz5 := hB.size
    clear b5
    go_wp2_with fail
    refine (equalInts_same [] A2 A5 c2 c5 _ h2 h5 (by decide)).mono ?_
    rintro e w6 ⟨rfl, b6⟩
    replace hB := hB.trans (b6.mono hz5)
    clear b6
    go_wp2_with fail
    go_ret
    exact ⟨rfl, hB⟩
  replace hq : ¬ qs.length = 0 := fun h => hq (List.eq_nil_of_length_eq_zero h)
  have hv : validQ ar gr = true := by
    by_cases hv : validQ ar gr = true
    · exact hv
    · exact absurd (by simp [hqs, queuesF, hv]) hq
  have hL : qs.length = ar.length := by simp only [hqs, queuesF, hv, if_true, queuesTo_length]
  have hA150 : ar.length ≤ 150 := by omega
  have hq1 : (((qs.length : Nat) : Int) == 0) = false := by simpa using fun h => hq (by simp [h])
  have hq2 : qs ≠ [] := fun h => hq (by simp [h])
  have hD : (departF ar gr).length ≤ 150 := (lens ar gr).2.2
  have hq0 : ((qs.length : Nat) : Int) ≠ 0 := by omega
  have hS := small_of hv
  have key : ∀ k (h1 : k < qs.length) (h2 : k < ar.length), qs[k] = sumL (ar.take k) + ar[k] - (cnt (departF ar gr) (k : Int) : Int) ∧ 0 ≤ qs[k] ∧ 0 ≤ ar[k] ∧ ar[k] ≤ 3 := by
    intro k h1 h2
    have hf := validQ_few hv
    have e1 : qs[k] = qlen ar gr (k + 1) := by simp [hqs, queuesF, hv, queuesTo]
    have e2 := qlen_law ar gr hf k ar.length (by omega) (Nat.le_refl _)
    have e3 := qlen_bd ar gr hf (k + 1)
    have e4 := hf k
    have e5 : ga ar k = ar[k] := (ga_at h2).symm
    have e6 : departF ar gr = departTo ar gr ar.length := by simp only [departF, hv, if_true]
    rw [sumL_take ar k h2] at e2
    rw [e1, e6]
    omega
  have Key := Lib.hid key
  have HL := Lib.hid hL
  clear key hv hqs hI hL
  go_wp2_with fail
  refine (hW _ ha hb).mono ?_
  rintro e w3 ⟨A3, c3, rfl, h3, b3⟩
  replace h3 := h3.rd
  replace ha := ha.below b3
  replace hb := hb.below b3
  replace h2 := h2.below b3
  replace hB := hB.trans (b3.mono hz2)
  have hz3 := hB.size
  clear b3
  go_wp2_with fail
  refine (equalInts_same (qs) A2 A3 c2 c3 _ h2 h3 (by omega)).mono ?_
  rintro e w4 ⟨rfl, b4⟩
  replace ha := ha.below b4
  replace hb := hb.below b4
  replace h2 := h2.below b4
  replace hB := hB.trans (b4.mono hz3)
  have hz4 := hB.size
  clear b4 h3
  go_wp2_with fail
  refine (iDepart_any ar gr A1 B1 c1 d1 _ ha hb (by omega) (by omega)).mono ?_
  rintro e w5 ⟨A5, c5, rfl, h5, b5⟩
  replace h5 := h5.rd
  replace ha := ha.below b5
  replace h2 := h2.below b5
  replace hB := hB.trans (b5.mono hz4)
  have hz5 := hB.size
  clear b5 hb
  clear hq hq1 hq2 hW
  go_wp2_with fail
  go_loopw [7, 8] (fun n i wr => ∃ k : Nat, k ≤ qs.length ∧ i = .int .i64 k ∧ n = .int .i64 (sumL (ar.take k)) ∧ ∃ m, wr = w5.drewN m) (fun _ i _ => qs.length - (intOf i).toNat)
  case atStart => exact ⟨0, Nat.zero_le _, rfl, by simp [sumL], 0, rfl⟩
  case round =>
    obtain ⟨k, hk, rfl, rfl, m, rfl⟩ := hrel
    by_cases hlt : k < qs.length
    · have hlta : k < ar.length := by have := HL.out; omega
      obtain ⟨k1, k2, k3, k4⟩ := Key.out k hlt hlta
      have hs1 := sumL_small ar hS k (by omega)
      have hst := Lib.hid (sumL_take ar k hlta)
      obtain ⟨b1, o1, rfl, hc1⟩ := ha.at hlta
      obtain ⟨b2, o2, rfl, hc2⟩ := h2.at hlt
      rw [k1] at hc2 k2
      have Ha := Lib.hid ha
      have H2 := Lib.hid h2
      clear ha h2 k1
      generalize ar[k] = x at hc1 hc2 k2 k3 k4 hst
      simp only [fI] at hc1 hc2
      have hlast := Lib.hid (show cnt ((departF ar gr).take (departF ar gr).length) (k : Int) = cnt (departF ar gr) (k : Int) by rw [List.take_length])
      have hcl := cnt_le (departF ar gr) (k : Int)
      go_wp2_with fail
      go_loopw [9, 10] (fun c j wr => ∃ j' : Nat, j' ≤ (departF ar gr).length ∧ j = .int .i64 j' ∧ c = .int .i64 (cnt ((departF ar gr).take j') (k : Int) : Int) ∧ ∃ m, wr = w5.drewN m) (fun _ j _ => (departF ar gr).length - (intOf j).toNat)
      case atStart => exact ⟨0, Nat.zero_le _, rfl, by simp [cnt], m, rfl⟩
      case round =>
        obtain ⟨j, hj, rfl, rfl, m2, rfl⟩ := hrel
        have hcj := cnt_le ((departF ar gr).take j) (k : Int)
        rw [List.length_take] at hcj
        have hcj2 : cnt ((departF ar gr).take j) (k : Int) ≤ 150 := by omega
        clear hcj
        by_cases hltj : j < (departF ar gr).length
        · have ht := cnt_take (departF ar gr) (k : Int) j hltj
          obtain ⟨b3, o3, rfl, hc3⟩ := h5.at hltj
          have H5 := Lib.hid h5
          clear h5
          generalize (departF ar gr)[j] = y at hc3 ht
          simp only [fI] at hc3
          by_cases hy : y ≤ (k : Int)
          · rw [if_pos hy] at ht
            have Ht := Lib.hid ht
            clear ht
            go_wp2_with fail
            go_roundw
            case rel => exact ⟨j + 1, by omega, by go_num, by rw [Ht.out]; rfl, m2, rfl⟩
            case measure => simp [intOf]; omega
          · rw [if_neg hy] at ht
            have Ht := Lib.hid ht
            clear ht
            go_wp2_with fail
            go_roundw
            case rel => exact ⟨j + 1, by omega, by go_num, by rw [Ht.out]; rfl, m2, rfl⟩
            case measure => simp [intOf]; omega
        · obtain rfl : j = (departF ar gr).length := by omega
          rw [hlast.out] at hcj2 ⊢
          have k2' : ¬ (sumL (ar.take k) + x - (cnt (departF ar gr) (k : Int) : Int) < 0) := by omega
          go_wp2_with fail
          go_roundw
          case rel => exact ⟨k + 1, by omega, by go_num, by rw [hst.out], m2, rfl⟩
          case measure => simp [intOf]; omega
    · have hL := HL.out
      go_wp2_with fail
      go_ret
      exact ⟨by simp [hL], below_drewN hB _⟩

set_option maxRecDepth 100000 in
theorem lifted (os : Os) (started : os.Started) (H : Type) (enc : TypeId × Value → H) :
    ReturnsInHanded {} Try.checked os 10 .any (Rows.fnQueueLengthsSpec.pre6 enc Try.prog Try.f10 Rows.fnQueueLengthsRow.domain false) (Rows.fnQueueLengthsSpec.post enc Try.prog Try.f10 false true false false) := by
  refine returnsInHanded_of_change (C := Try.checked) own started (by kernel_rfl) Try.func10
    (ChangeSpec.witness6 (enc := enc) (C := Try.checked) false ⟨#[], #[.slice none 0 0], []⟩ 8 (by kernel_rfl) (by kernel_rfl) (by kernel_rfl) (by kernel_rfl)) ?_
  intro W base args ds gs before hval0 hW hcnd _
  have hval : ∀ (j : Nat) t v, Try.f10.params[j]? = some t → args[j]? = some v → Value.okWide Try.prog W .any base t v := hval0
  have hW' := hW
  obtain ⟨p, q, hA0, hV, rfl, hfz, hnd⟩ := hW
  have hA : DataW.TrodAll enc Try.prog W 0 (fun _ => true) true Try.f10.params.toList args.toList ds p := hA0
  rw [Try.params10] at hA hval
  obtain ⟨v0, vs0, d0, ds0, p0, q0, hargs, rfl, rfl, h0, r0⟩ := trodAll_cons hA
  obtain ⟨rfl, rfl, rfl⟩ := trodAll_nil r0
  obtain rfl : args = #[v0] := by cases args; simp_all
  obtain ⟨rfl, rfl⟩ := trodVars_none hV
  have k0 := h0
  have lt0 : ∀ x ∈ p0, x.block < W.heap.size := by obtain ⟨m, hm⟩ := k0; exact DataW.trod_lt m _ _ _ hm
  obtain ⟨a0, len0, cap0, rfl⟩ := okWide_slice Try.underlying33 (hval 0 33 v0 rfl rfl)
  obtain ⟨w0, hc0⟩ := open_bytes Try.underlying33 Try.underlying5 (by kernel_rfl) h0
  clear hA0 hval0
  refine (walk a0 len0 cap0 W w0 hc0).mono fun e W' ⟨he, bel⟩ => ?_
  subst he
  exact ⟨_, rfl, _, _, _, [], _, [], hW', trodAll_mk1 (shut_bool Try.underlying4 _), (trodAll_cons_mk (Below.trod laidOut (by kernel_rfl) (of_decide_eq_true (by kernel_rfl)) k0 bel lt0) trodAll_mk0), rfl, bel.frame _, fun h => by cases h⟩

theorem over : Rows.fnQueueLengthsRow.holds Try.pinned (OpenSpec.ofChange Rows.fnQueueLengthsSpec) :=
  OpenClaim.holds_of_wide 10 Try.f10 rfl rfl rfl rfl rfl rfl rfl ⟨rfl, rfl, rfl, rfl, rfl⟩ rfl rfl rfl rfl rfl (by kernel_rfl) Try.func10 (by kernel_rfl)
    (of_decide_eq_true (by kernel_rfl)) (by unfold Func.isWrapper; first | (rw [if_pos (by decide +kernel)]; kernel_rfl) | (rw [if_neg (by decide +kernel)]; exact ⟨rfl, rfl⟩))
    (fun os started H enc _ => lifted os started H enc)

theorem proved : Rows.FnQueueLengthsSaid := over
end Go.Proofs.Ytlafbfphegmbaaa.FnQueueLengths
