/-
  Lamps: which texts are lamps, what may follow.
-/
import Derived.Test.YtcgcjjpkcaljgaaLpMath
namespace Go.Proofs.Ytcgcjjpkcaljgaa
open Go.RowKit
set_option linter.unusedVariables false

abbrev strL (l : List UInt8) : Value := .string ⟨l.toArray⟩
theorem u8c (b c : UInt8) : ((b.toNat : Int) == (c.toNat : Int)) = (b == c) := by
  by_cases h : b = c
  · subst h; simp
  · have h2 : b.toNat ≠ c.toNat := fun e => h (UInt8.toNat_inj.mp e)
    rw [beq_eq_false_iff_ne.mpr h, beq_eq_false_iff_ne]
    omega
theorem u8n (b c : UInt8) : ((b.toNat : Int) != (c.toNat : Int)) = !(b == c) := by
  unfold bne; rw [u8c]
theorem gu_arr {l : List UInt8} {k : Nat} (h : k < (⟨l.toArray⟩ : ByteArray).size) (hk : k < l.length) : (⟨l.toArray⟩ : ByteArray)[k]'h = gu l k := by
  rw [← gu_at hk]; rfl
/-- A byte is one of the four letters, or none. -/
theorem isL_cases (x : UInt8) : (isL x = true ∧ ((x.toNat : Int) = 82 ∨ (x.toNat : Int) = 65 ∨ (x.toNat : Int) = 71 ∨ (x.toNat : Int) = 89)) ∨
    (isL x = false ∧ ((x.toNat : Int) == 82) = false ∧ ((x.toNat : Int) == 65) = false ∧ ((x.toNat : Int) == 71) = false ∧ ((x.toNat : Int) == 89) = false) := by
  have e1 : ((x.toNat : Int) == 82) = (x == 82) := u8c x 82
  have e2 : ((x.toNat : Int) == 65) = (x == 65) := u8c x 65
  have e3 : ((x.toNat : Int) == 71) = (x == 71) := u8c x 71
  have e4 : ((x.toNat : Int) == 89) = (x == 89) := u8c x 89
  unfold isL
  rw [← e1, ← e2, ← e3, ← e4]
  generalize (x.toNat : Int) = n
  by_cases h1 : n = 82
  · left; simp [h1]
  by_cases h2 : n = 65
  · left; simp [h2]
  by_cases h3 : n = 71
  · left; simp [h3]
  by_cases h4 : n = 89
  · left; simp [h4]
  right
  simp [h1, h2, h3, h4]
theorem beq_bne {a b : Int} (h : (a == b) = false) : (a != b) = true := by simp [bne, h]

theorem sValidL_any (l : List UInt8) (w : World) (hl : l.length ≤ 1000000) :
    Calls Try.prog 17 #[strL l] w fun e w' => e = .returned (.bool (validL l)) ∧ Below w.heap.size w w' := by
  go_enter Try.func17, Try.ntmps17
  go_wp2_with fail
  go_loopw [3] (fun vi wr => ∃ k : Nat, k ≤ l.length ∧ vi = .int .i64 k ∧ lettersN l k = true ∧ ∃ m, wr = w.drewN m) (fun vi _ => l.length - (intOf vi).toNat)
  case atStart => exact ⟨0, Nat.zero_le _, rfl, rfl, 0, rfl⟩
  case round =>
    obtain ⟨k, hk, rfl, hp, m, rfl⟩ := hrel
    by_cases hlt : k < l.length
    · have hsz : k < (⟨l.toArray⟩ : ByteArray).size := hlt
      have hg := gu_arr hsz hlt
      have Hp := Lib.hid hp
      have Hs := Lib.hid (lettersN_succ l k)
      have Hn := Lib.hid (fun h => letters_no (l := l) hlt h)
      clear hp
      generalize gu l k = x at *
      rcases isL_cases x with ⟨hi, hx⟩ | ⟨hi, h1, h2, h3, h4⟩
      · have Hs2 := Lib.hid (show lettersN l (k + 1) = true by rw [Hs.out, Hp.out, hi]; rfl)
        clear hi Hs Hn
        rcases hx with hx | hx | hx | hx
        all_goals
          go_wp2_with fail
          go_roundw
          case rel => exact ⟨k + 1, by omega, by go_num, Hs2.out, m, rfl⟩
          case measure => simp [intOf]; omega
      · have H := Lib.hid (show false = validL l from (Hn.out hi).symm)
        have h5 := beq_bne h1
        have h6 := beq_bne h2
        have h7 := beq_bne h3
        have h8 := beq_bne h4
        clear hi Hs Hn
        go_wp2_with fail
        go_ret
        exact ⟨ret_bool H.out, below_drewN (Below.refl _ _) _⟩
    · obtain rfl : k = l.length := by omega
      have H := Lib.hid (show decide ((l.length : Int) ≤ 200) = validL l by
        rw [validL, hp, Bool.true_and]
        exact decide_eq_decide.mpr (by omega))
      clear hp
      go_wp2_with fail
      go_ret
      exact ⟨ret_bool H.out, below_drewN (Below.refl _ _) _⟩
theorem iValidL_any (l : List UInt8) (w : World) (hl : l.length ≤ 1000000) :
    Calls Try.prog 16 #[strL l] w fun e w' => e = .returned (.bool (validL l)) ∧ Below w.heap.size w w' := by
  by_cases h200 : 200 < l.length
  · have H := Lib.hid (show false = validL l by simp [validL]; omega)
    go_enter Try.func16, Try.ntmps16
    go_wp2_with fail
    go_ret
    exact ⟨ret_bool H.out, Below.refl _ _⟩
  go_enter Try.func16, Try.ntmps16
  go_wp2_with fail
  go_loopw [9] (fun vi wr => ∃ k : Nat, k ≤ l.length ∧ vi = .int .i64 k ∧ lettersN l k = true ∧ ∃ m, wr = w.drewN m) (fun vi _ => l.length - (intOf vi).toNat)
  case atStart => exact ⟨0, Nat.zero_le _, rfl, rfl, 0, rfl⟩
  case round =>
    obtain ⟨k, hk, rfl, hp, m, rfl⟩ := hrel
    by_cases hlt : k < l.length
    · have hsz : k < (⟨l.toArray⟩ : ByteArray).size := hlt
      have hg := gu_arr hsz hlt
      have Hp := Lib.hid hp
      have Hs := Lib.hid (lettersN_succ l k)
      have Hn := Lib.hid (fun h => letters_no (l := l) hlt h)
      clear hp
      generalize gu l k = x at *
      rcases isL_cases x with ⟨hi, hx⟩ | ⟨hi, h1, h2, h3, h4⟩
      · have Hs2 := Lib.hid (show lettersN l (k + 1) = true by rw [Hs.out, Hp.out, hi]; rfl)
        clear hi Hs Hn
        rcases hx with hx | hx | hx | hx
        all_goals
          go_wp2_with fail
          go_roundw
          case rel => exact ⟨k + 1, by omega, by go_num, Hs2.out, m, rfl⟩
          case measure => simp [intOf]; omega
      · have H := Lib.hid (show false = validL l from (Hn.out hi).symm)
        clear hi Hs Hn
        go_wp2_with fail
        go_ret
        exact ⟨ret_bool H.out, below_drewN (Below.refl _ _) _⟩
    · obtain rfl : k = l.length := by omega
      have H := Lib.hid (show true = validL l by
        rw [validL, hp, Bool.true_and]
        exact (decide_eq_true (by omega)).symm)
      clear hp
      go_wp2_with fail
      go_ret
      exact ⟨ret_bool H.out, below_drewN (Below.refl _ _) _⟩
theorem fol_82 (b : UInt8) : ((b.toNat : Int) != 89) = folB 82 b := by
  rw [show folB 82 b = !(b == 89) from rfl]; exact u8n b 89
theorem fol_65 (b : UInt8) : ((b.toNat : Int) == 71) = folB 65 b := by
  rw [show folB 65 b = (b == 71) from rfl]; exact u8c b 71
theorem fol_71 (b : UInt8) : (((b.toNat : Int) == 71) || ((b.toNat : Int) == 89)) = folB 71 b := by
  rw [show folB 71 b = (b == 71 || b == 89) from rfl]
  have e1 : ((b.toNat : Int) == 71) = (b == 71) := u8c b 71
  have e2 : ((b.toNat : Int) == 89) = (b == 89) := u8c b 89
  rw [e1, e2]
theorem u8v {a c : UInt8} (h : (a.toNat : Int) = (c.toNat : Int)) : a = c := UInt8.toNat_inj.mp (by omega)
theorem sFol_any (a b : UInt8) (h : isL a = true) (w : World) :
    Calls Try.prog 22 #[.int .u8 (a.toNat : Int), .int .u8 (b.toNat : Int)] w fun e w' => e = .returned (.bool (folB a b)) ∧ w = w' := by
  rcases isL_cases a with ⟨hi, hx⟩ | ⟨hi, _⟩
  case inr => rw [h] at hi; cases hi
  clear h hi
  rcases hx with hx | hx | hx | hx
  · obtain rfl : a = 82 := u8v (by rw [hx]; rfl)
    have H := Lib.hid (fol_82 b)
    generalize ((b.toNat : Nat) : Int) = y at *
    go_enter Try.func22, Try.ntmps22
    go_wp2_with fail
    all_goals go_ret
    all_goals (refine ⟨ret_bool ?_, rfl⟩; rw [← H.out]; try simp [*])
  · obtain rfl : a = 65 := u8v (by rw [hx]; rfl)
    have H := Lib.hid (fol_65 b)
    generalize ((b.toNat : Nat) : Int) = y at *
    go_enter Try.func22, Try.ntmps22
    go_wp2_with fail
    all_goals go_ret
    all_goals (refine ⟨ret_bool ?_, rfl⟩; rw [← H.out]; try simp [*])
  · obtain rfl : a = 71 := u8v (by rw [hx]; rfl)
    have H := Lib.hid (fol_71 b)
    generalize ((b.toNat : Nat) : Int) = y at *
    go_enter Try.func22, Try.ntmps22
    go_wp2_with fail
    all_goals go_ret
    all_goals (refine ⟨ret_bool ?_, rfl⟩; rw [← H.out]; try simp [*])
  · obtain rfl : a = 89 := u8v (by rw [hx]; rfl)
    have H := Lib.hid (show true = folB 89 b from rfl)
    generalize ((b.toNat : Nat) : Int) = y at *
    go_enter Try.func22, Try.ntmps22
    go_wp2_with fail
    all_goals go_ret
    all_goals (refine ⟨ret_bool ?_, rfl⟩; rw [← H.out]; try simp [*])
theorem iFol_any (a b : UInt8) (h : isL a = true) (w : World) :
    Calls Try.prog 21 #[.int .u8 (a.toNat : Int), .int .u8 (b.toNat : Int)] w fun e w' => e = .returned (.bool (folB a b)) ∧ w = w' := by
  rcases isL_cases a with ⟨hi, hx⟩ | ⟨hi, _⟩
  case inr => rw [h] at hi; cases hi
  clear h hi
  rcases hx with hx | hx | hx | hx
  · obtain rfl : a = 82 := u8v (by rw [hx]; rfl)
    have H := Lib.hid (fol_82 b)
    generalize ((b.toNat : Nat) : Int) = y at *
    go_enter Try.func21, Try.ntmps21
    go_wp2_with fail
    all_goals go_ret
    all_goals (refine ⟨ret_bool ?_, rfl⟩; rw [← H.out]; try simp [*])
  · obtain rfl : a = 65 := u8v (by rw [hx]; rfl)
    have H := Lib.hid (fol_65 b)
    generalize ((b.toNat : Nat) : Int) = y at *
    go_enter Try.func21, Try.ntmps21
    go_wp2_with fail
    all_goals go_ret
    all_goals (refine ⟨ret_bool ?_, rfl⟩; rw [← H.out]; try simp [*])
  · obtain rfl : a = 71 := u8v (by rw [hx]; rfl)
    have H := Lib.hid (fol_71 b)
    generalize ((b.toNat : Nat) : Int) = y at *
    go_enter Try.func21, Try.ntmps21
    go_wp2_with fail
    all_goals go_ret
    all_goals (refine ⟨ret_bool ?_, rfl⟩; rw [← H.out]; try simp [*])
  · obtain rfl : a = 89 := u8v (by rw [hx]; rfl)
    have H := Lib.hid (show true = folB 89 b from rfl)
    generalize ((b.toNat : Nat) : Int) = y at *
    go_enter Try.func21, Try.ntmps21
    go_wp2_with fail
    all_goals go_ret
    all_goals (refine ⟨ret_bool ?_, rfl⟩; rw [← H.out]; try simp [*])
end Go.Proofs.Ytcgcjjpkcaljgaa
