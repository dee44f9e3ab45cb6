/-
  Plans of the program: validity.
-/
import Derived.Test.YtcckipckgnkieaaPlFits
import Derived.Test.YtcckipckgnkieaaPlHist
namespace Go.Proofs.Ytcckipckgnkieaa
open Go.RowKit
set_option linter.unusedVariables false

set_option maxHeartbeats 1600000 in
/-- The table of conflicts is valid. -/
theorem vConf_yes (t : List (List Int)) (D : Option Addr) (d : Nat) (w : World) (hD : RdSS fB w D (cfL t)) (hc : GoodC t) :
    Calls Try.prog 97 #[.slice D t.length d] w fun e w' => e = .returned (.bool true) ∧ Below w.heap.size w w' := by
  have hn1 := hc.n1
  have hn8 := hc.n2
  have Hc := Lib.hid hc
  clear hc
  have hin := within_any (t.length : Int) 1 8 w
  rw [show inB (t.length : Int) 1 8 = true from inB_iff.mpr (by omega)] at hin
  go_enter Try.func97, Try.ntmps97
  go_wp2_with fail
  refine hin.mono ?_
  rintro e w1 ⟨rfl, rfl⟩
  clear hin
  go_wp2_with fail
  go_loopw [15] (fun vi wr => ∃ k : Nat, k ≤ t.length ∧ vi = .int .i64 k ∧ ∃ q, wr = w.drewN q) (fun vi _ => t.length - (intOf vi).toNat)
  case atStart => exact ⟨0, Nat.zero_le _, rfl, 0, rfl⟩
  case round =>
    obtain ⟨k, hk, rfl, q, rfl⟩ := hrel
    by_cases hlt : k < t.length
    · obtain ⟨b1, o1, b2, o2, c2, rfl, hc1, hc2⟩ := cfAt hD hlt
      have Hc2 := Lib.hid hc2
      clear hc2
      go_wp2_with fail
      go_roundw
      case rel => exact ⟨k + 1, by omega, by go_num, _, rfl⟩
      case measure => simp [intOf]; omega
    · obtain rfl : k = t.length := by omega
      clear hlt
      go_wp2_with fail
      go_loopw [27] (fun vi wr => ∃ k : Nat, k ≤ t.length ∧ vi = .int .i64 k ∧ ∃ q, wr = w.drewN q) (fun vi _ => t.length - (intOf vi).toNat)
      case atStart => exact ⟨0, Nat.zero_le _, rfl, _, rfl⟩
      case round =>
        obtain ⟨k, hk, rfl, q2, rfl⟩ := hrel
        by_cases hlt : k < t.length
        · obtain ⟨b1, o1, b2, o2, c2, rfl, hc1, hc2⟩ := cfAt hD hlt
          have Hc2 := Lib.hid hc2
          clear hc2
          go_wp2_with fail
          go_loopw [34] (fun vi wr => ∃ j : Nat, j ≤ t.length ∧ vi = .int .i64 j ∧ ∃ q, wr = w.drewN q) (fun vi _ => t.length - (intOf vi).toNat)
          case atStart => exact ⟨0, Nat.zero_le _, rfl, _, rfl⟩
          case round =>
            obtain ⟨j, hj, rfl, q3, rfl⟩ := hrel
            by_cases hlt2 : j < t.length
            · obtain ⟨b3, o3, b4, o4, c4, e3, hc3, hc4⟩ := cfAt hD hlt2
              obtain ⟨rfl, rfl⟩ : b1 = b3 ∧ o1 = o3 := by simpa using e3
              have h1 := Hc2.out j hlt2
              have h2 := hc4 k hlt
              have hsy : decide (0 < tc t k j) = decide (0 < tc t j k) := by
                have := Hc.out.sy k j hlt hlt2
                by_cases h : 0 < tc t k j
                · rw [decide_eq_true h, decide_eq_true (this.mp h)]
                · rw [decide_eq_false h, decide_eq_false (fun hh => h (this.mpr hh))]
              have hdi : k = j → decide (0 < tc t k j) = false := fun e => by
                subst e
                rw [Hc.out.di k hlt]
                rfl
              rw [← hsy] at h2
              clear hc4 hsy e3
              generalize decide (0 < tc t k j) = z at *
              cases z with
              | true =>
                have hkj : ((k : Int) == (j : Int)) = false := beq_eq_false_iff_ne.mpr fun e => by have := hdi (by omega); cases this
                clear hdi
                go_wp2_with fail
                go_roundw
                case rel => exact ⟨j + 1, by omega, by go_num, _, rfl⟩
                case measure => simp [intOf]; omega
              | false =>
                clear hdi
                cases hkj : ((k : Int) == (j : Int)) with
                | true =>
                  go_wp2_with fail
                  go_roundw
                  case rel => exact ⟨j + 1, by omega, by go_num, _, rfl⟩
                  case measure => simp [intOf]; omega
                | false =>
                  go_wp2_with fail
                  go_roundw
                  case rel => exact ⟨j + 1, by omega, by go_num, _, rfl⟩
                  case measure => simp [intOf]; omega
            · obtain rfl : j = t.length := by omega
              clear hlt2
              go_wp2_with fail
              go_roundw
              case rel => exact ⟨k + 1, by omega, by go_num, _, rfl⟩
              case measure => simp [intOf]; omega
        · obtain rfl : k = t.length := by omega
          clear hlt
          go_wp2_with fail
          go_ret
          exact ⟨rfl, below_drewN (Below.refl _ _) _⟩
end Go.Proofs.Ytcckipckgnkieaa
