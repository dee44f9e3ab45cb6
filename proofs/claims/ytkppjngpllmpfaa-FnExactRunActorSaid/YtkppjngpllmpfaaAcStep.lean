/-
  One second of a controller: the program's and the reference's.
-/
import Derived.Test.YtkppjngpllmpfaaAcVal
namespace Go.Proofs.Ytkppjngpllmpfaa
open Go.RowKit
set_option linter.unusedVariables false

theorem mod_facts (now j n : Nat) (hn : 0 < n) : (0 : Int) ≤ ((now : Int) + (j : Int)) % (n : Int) ∧ ((now : Int) + (j : Int)) % (n : Int) < (n : Int) ∧ (((now : Int) + (j : Int)) % (n : Int)).toNat = (now + j) % n ∧ ((now : Int) + (j : Int)) % (n : Int) = (((now + j) % n : Nat) : Int) :=
  ⟨Int.emod_nonneg _ (by omega), Int.emod_lt_of_pos _ (by omega), Int.toNat_natCast ((now + j) % n), by rw [Int.natCast_emod, Int.natCast_add]⟩

set_option maxHeartbeats 800000 in
theorem sNext_any (now : Nat) (pa qu le : Int) (wa : List Bool) (A : Option Addr) (c : Nat) (w : World) (hr : RdL fB w A wa) (hn : now < wa.length) (h5 : wa.length ≤ 5) :
    Calls Try.prog 41 #[acV ⟨(wa.length : Int), (now : Int), pa, qu, le, wa⟩ A c] w fun e w' => e = .returned (.int .i64 (nextI wa now (wa.length - 1))) ∧ Below w.heap.size w w' := by
  have hbox := (Below.refl w.heap.size w).alloc (Nat.le_refl _) (.cells (acC ⟨(wa.length : Int), (now : Int), pa, qu, le, wa⟩ A c) 25)
  have hr1 := hr.alloc (.cells (acC ⟨(wa.length : Int), (now : Int), pa, qu, le, wa⟩ A c) 25)
  clear hr
  go_enter Try.func41, Try.ntmps41
  go_wp2_with fail
  go_loop [3] (fun i => ∃ j : Nat, 1 ≤ j ∧ j ≤ wa.length ∧ i = .int .i64 j ∧ nextI wa now (j - 1) = -1) (fun i => wa.length - (intOf i).toNat)
  case atStart => exact ⟨1, Nat.le_refl _, by omega, rfl, rfl⟩
  case round =>
    obtain ⟨j, h1, hj, rfl, hno⟩ := hrel
    have Hno := Lib.hid hno
    clear hno
    by_cases hlt : j < wa.length
    · obtain ⟨m1, m2, m3, m4⟩ := mod_facts now j wa.length (by omega)
      have hm := Nat.mod_lt (now + j) (show 0 < wa.length by omega)
      obtain ⟨b, o, rfl, hc⟩ := hr1.at hm
      rw [gb_at hm] at hc
      have hst := nextI_step h1 Hno.out
      have M4 := Lib.hid m4
      simp only [fB] at hc
      clear m4 hr1
      cases hg : gb wa ((now + j) % wa.length) with
      | true =>
        rw [hg] at hc hst
        have hfin := Lib.hid (nextI_stop (k := wa.length - 1) (show nextI wa now j ≠ -1 by rw [hst, if_pos rfl]; omega) (by omega))
        have Hst := Lib.hid (hst.trans (if_pos rfl))
        clear hg hst
        go_wp2_with fail
        go_ret
        exact ⟨ret_int (by rw [hfin.out, Hst.out, M4.out]), hbox⟩
      | false =>
        rw [hg] at hc hst
        have Hst := Lib.hid (hst.trans (if_neg (by decide)))
        clear hg hst
        go_wp2_with fail
        go_round
        case rel => exact ⟨j + 1, by omega, by omega, by go_num, Hst.out⟩
        case measure => simp [intOf]; omega
    · obtain rfl : j = wa.length := by omega
      clear hr1
      go_wp2_with fail
      go_ret
      exact ⟨ret_int Hno.out.symm, hbox⟩

set_option maxHeartbeats 800000 in
theorem iNext_any (now : Nat) (pa qu le : Int) (wa : List Bool) (A : Option Addr) (c g : Nat) (w : World) (hb : Blk w g 25 (acC ⟨(wa.length : Int), (now : Int), pa, qu, le, wa⟩ A c)) (hr : RdL fB w A wa) (hn : now < wa.length) (h5 : wa.length ≤ 5) :
    Calls Try.prog 39 #[.pointer (some ⟨g, 0, none⟩)] w fun e w' => e = .returned (.int .i64 (nextI wa now (wa.length - 1))) ∧ ∃ m, w' = w.drewN m := by
  have f0 := hb.cell 0
  have f1 := hb.cell 1
  have f5 := hb.cell 5
  simp at f0 f1 f5
  clear hb
  go_enter Try.func39, Try.ntmps39
  go_wp2_with fail
  go_loopw [3] (fun i wr => ∃ j : Nat, 1 ≤ j ∧ j ≤ wa.length ∧ i = .int .i64 j ∧ nextI wa now (j - 1) = -1 ∧ ∃ m, wr = w.drewN m) (fun i _ => wa.length - (intOf i).toNat)
  case atStart => exact ⟨1, Nat.le_refl _, by omega, rfl, rfl, 0, rfl⟩
  case round =>
    obtain ⟨j, h1, hj, rfl, hno, m, rfl⟩ := hrel
    have Hno := Lib.hid hno
    clear hno
    by_cases hlt : j < wa.length
    · obtain ⟨m1, m2, m3, m4⟩ := mod_facts now j wa.length (by omega)
      have hm := Nat.mod_lt (now + j) (show 0 < wa.length by omega)
      obtain ⟨b, o, rfl, hc⟩ := hr.at hm
      rw [gb_at hm] at hc
      have hst := nextI_step h1 Hno.out
      have M4 := Lib.hid m4
      have e1 : IntKind.i64.wrap ((now : Int) + (j : Int)) = (now : Int) + (j : Int) := by simp [IntKind.wrap, IntKind.bits, IntKind.signed]; omega
      have e2 : ((now : Int) + (j : Int)).tmod (wa.length : Int) = ((now : Int) + (j : Int)) % (wa.length : Int) := Int.tmod_eq_emod_of_nonneg (by omega)
      simp only [fB] at hc
      clear m4 hr
      cases hg : gb wa ((now + j) % wa.length) with
      | true =>
        rw [hg] at hc hst
        have hfin := Lib.hid (nextI_stop (k := wa.length - 1) (show nextI wa now j ≠ -1 by rw [hst, if_pos rfl]; omega) (by omega))
        have Hst := Lib.hid (hst.trans (if_pos rfl))
        clear hg hst
        go_wp2_with fail
        go_quiet (fail)
        go_wp2_with fail
        go_ret
        exact ⟨ret_int (by rw [hfin.out, Hst.out, M4.out]), m + nq, rfl⟩
      | false =>
        rw [hg] at hc hst
        have Hst := Lib.hid (hst.trans (if_neg (by decide)))
        clear hg hst
        go_wp2_with fail
        go_quiet (fail)
        go_wp2_with fail
        go_roundw
        case rel => exact ⟨j + 1, by omega, by omega, by go_num, Hst.out, m + nq, rfl⟩
        case measure => simp [intOf]; omega
    · obtain rfl : j = wa.length := by omega
      clear hr
      go_wp2_with fail
      go_ret
      exact ⟨ret_int Hno.out.symm, m, rfl⟩
end Go.Proofs.Ytkppjngpllmpfaa
