/-
  Generated phases: masks, sorting, phases without conflicts.
-/
import Derived.Test.YtcckipckgnkieaaPlHist
namespace Go.Proofs.Ytcckipckgnkieaa
open Go.RowKit
set_option linter.unusedVariables false

/-- A new slice of which something is known. -/
def NewP {α : Type} (f : α → Value) (T : TypeId) (w : World) (Pr : List α → Prop) (e : Ending) (w' : World) : Prop :=
  ∃ xs A c, e = .returned (.slice A xs.length c) ∧ OwnO f w' w.heap.size T A c xs ∧ Pr xs ∧ Below w.heap.size w w'

set_option maxRecDepth 100000 in
set_option maxHeartbeats 1600000 in
theorem inMask_any (mask : Int) (n : Nat) (w : World) (h0 : 0 ≤ mask) (h1 : mask ≤ 1000) (hn : n ≤ 8) :
    Calls Try.prog 87 #[.int .i64 mask, .int .i64 (n : Int)] w (NewP fI 3 w fun xs => xs.length ≤ n) := by
  obtain ⟨i0, hi0, hz0, hz1, hz2⟩ := info_parts info_Int
  have hA := (OwnL.of_cap (lo := w.heap.size) fI (Blk.new w 3 #[]) (Nat.le_refl _) rfl (by simp [maxLen])).o
  have hB := (Below.refl w.heap.size w).alloc (Nat.le_refl _) (.cells #[] 3)
  go_enter Try.func87, Try.ntmps87
  go_wp2_with fail
  generalize w.alloc (.cells #[] 3) = w1 at *
  go_loopw [5, 6] (fun v5 vi wr => ∃ k : Nat, k ≤ n ∧ vi = .int .i64 k ∧ (∃ D d ys, v5 = .slice D (ys : List Int).length d ∧ ys.length ≤ k ∧ OwnO fI wr w.heap.size 3 D d ys) ∧ Below w.heap.size w wr) (fun _ vi _ => n - (intOf vi).toNat)
  case atStart => exact ⟨0, Nat.zero_le _, rfl, ⟨_, _, [], rfl, Nat.zero_le _, hA⟩, hB⟩
  case round =>
    clear hA hB
    obtain ⟨k, hk, rfl, ⟨D, d, ys, rfl, hyl, hO⟩, hB⟩ := hrel
    have hzr := hB.size
    have hOl := hO.lt
    by_cases hlt : k < n
    · cases hb : ((mask / 2 ^ k).tmod 2 == 1) with
      | true =>
        go_wp2_with (at_builtin; go_must (refine wpList_pushO rfl (.tmp 18) (.tmp 20) 32 rfl i0 _ 8 Try.underlying32 hi0 hz0 hz1 hz2 rfl rfl (hO.alloc (.cells #[.int .i64 (k : Int)] 3)) wr.heap.size (k : Int) rfl (cell_new _ _ _) rfl (by omega) (by omega) (by simp; omega) ?_); intro D3 d3 w5 hO5 hg5 hb5)
        have hB5 := below_push hzr hB hOl hg5
        go_roundw
        case rel => exact ⟨k + 1, by omega, by go_num, ⟨D3, d3, ys ++ [(k : Int)], by simp, by simp; omega, hO5⟩, hB5⟩
        case measure => simp [intOf]; omega
      | false =>
        go_wp2_with fail
        go_roundw
        case rel => exact ⟨k + 1, by omega, by go_num, ⟨D, d, ys, rfl, by omega, hO⟩, hB⟩
        case measure => simp [intOf]; omega
    · obtain rfl : k = n := by omega
      go_wp2_with fail
      go_ret
      exact ⟨ys, D, d, rfl, hO, hyl, hB⟩

/-- The movements of a list lie among n. -/
def InN (n : Nat) (m : List Int) : Prop := ∀ i, i < m.length → 0 ≤ ga m i ∧ ga m i < (n : Int)
set_option maxHeartbeats 1600000 in
theorem sClear_w (t : List (List Int)) (m : List Int) (D A : Option Addr) (c d : Nat) (w : World) (hD : RdSS fB w D (cfL t)) (hr : RdL fI w A m) (ht : t.length ≤ 8) (hml : m.length ≤ 1000) (hm : InN t.length m) :
    Calls Try.prog 84 #[.slice D t.length d, .slice A m.length c] w fun e w' => (∃ v, e = .returned (.bool v)) ∧ Below w.heap.size w w' := by
  have Hm := Lib.hid hm
  clear hm
  go_enter Try.func84, Try.ntmps84
  go_wp2_with fail
  go_loopw [5] (fun vi wr => ∃ k : Nat, k ≤ m.length ∧ vi = .int .i64 k ∧ ∃ q, wr = w.drewN q) (fun vi _ => m.length - (intOf vi).toNat)
  case atStart => exact ⟨0, Nat.zero_le _, rfl, 0, rfl⟩
  case round =>
    obtain ⟨k, hk, rfl, q, rfl⟩ := hrel
    by_cases hlt : k < m.length
    · obtain ⟨b, o, rfl, hel⟩ := elemAt hr hlt
      have hb := Hm.out k hlt
      obtain ⟨x, hx⟩ : ∃ x : Nat, ga m k = (x : Int) := ⟨_, (Int.toNat_of_nonneg hb.1).symm⟩
      rw [hx] at hel hb
      have hxl : x < t.length := by omega
      obtain ⟨b1, o1, b2, o2, c2, rfl, hc1, hc2⟩ := cfAt hD hxl
      have Hc2 := Lib.hid hc2
      clear hx hc2
      go_wp2_with fail
      go_loopw [6] (fun vi wr => ∃ j : Nat, j ≤ k ∧ vi = .int .i64 j ∧ ∃ q, wr = w.drewN q) (fun vi _ => k - (intOf vi).toNat)
      case atStart => exact ⟨0, Nat.zero_le _, rfl, _, rfl⟩
      case round =>
        obtain ⟨j, hj, rfl, q2, rfl⟩ := hrel
        by_cases hlt2 : j < k
        · obtain ⟨b3, o3, e3, hel2⟩ := elemAt hr (k := j) (by omega)
          obtain ⟨rfl, rfl⟩ : b = b3 ∧ o = o3 := by simpa using e3
          have hb2 := Hm.out j (by omega)
          obtain ⟨y, hy⟩ : ∃ y : Nat, ga m j = (y : Int) := ⟨_, (Int.toNat_of_nonneg hb2.1).symm⟩
          rw [hy] at hel2 hb2
          have hyl : y < t.length := by omega
          have hc3 := Hc2.out y hyl
          have hkm : (k : Int) < (m.length : Int) := by omega
          have hjm : (j : Int) < (m.length : Int) := by omega
          have hxt : (x : Int) < (t.length : Int) := by omega
          have hyt : (y : Int) < (t.length : Int) := by omega
          clear e3 hy
          generalize decide (0 < tc t x y) = z at *
          cases z with
          | true =>
            go_wp2_with fail
            go_quiet (fail)
            go_wp2_with fail
            go_ret
            exact ⟨⟨_, rfl⟩, below_drewN (below_drewN (Below.refl _ _) _) _⟩
          | false =>
            go_wp2_with fail
            go_quiet (fail)
            go_wp2_with fail
            go_roundw
            case rel => exact ⟨j + 1, by omega, by go_num, _, rfl⟩
            case measure => simp [intOf]; omega
        · obtain rfl : j = k := by omega
          clear hlt2
          go_wp2_with fail
          go_roundw
          case rel => exact ⟨j + 1, by omega, by go_num, _, rfl⟩
          case measure => simp [intOf]; omega
    · obtain rfl : k = m.length := by omega
      clear hlt
      go_wp2_with fail
      go_ret
      exact ⟨⟨_, rfl⟩, below_drewN (Below.refl _ _) _⟩

set_option maxHeartbeats 1600000 in
theorem sorted_any (m : List Int) (A : Option Addr) (c : Nat) (w : World) (hr : RdL fI w A m) (hml : m.length ≤ 1000) :
    Calls Try.prog 96 #[.slice A m.length c] w (NewP fI 3 w fun xs => xs.length = m.length) := by
  go_enter Try.func96, Try.ntmps96
  go_wp2_with fail
  refine (copyInts_any m A c w hr (by omega)).mono ?_
  rintro e w1 ⟨A1, c1, rfl, ho, hb1⟩
  have hO := ho.o
  clear ho hr
  go_wp2_with fail
  go_loopw [4] (fun vi wr => ∃ k : Nat, 1 ≤ k ∧ (k ≤ m.length ∨ k = 1) ∧ vi = .int .i64 k ∧ (∃ ys, ys.length = m.length ∧ OwnO fI wr w.heap.size 3 A1 c1 ys) ∧ Below w.heap.size w wr) (fun vi _ => m.length - (intOf vi).toNat)
  case atStart => exact ⟨1, Nat.le_refl _, .inr rfl, rfl, ⟨m, rfl, hO⟩, hb1⟩
  case round =>
    clear hO hb1
    obtain ⟨k, hk1, hk, rfl, ⟨ys, hyl, hO⟩, hB⟩ := hrel
    obtain ⟨wo, hwo⟩ : ∃ wo, wo = wr := ⟨_, rfl⟩
    subst hwo
    by_cases hlt : k < m.length
    · go_wp2_with fail
      go_loopw [5] (fun vi wr => ∃ j : Nat, j ≤ k ∧ vi = .int .i64 j ∧ (∃ ys, ys.length = m.length ∧ OwnO fI wr w.heap.size 3 A1 c1 ys) ∧ Below w.heap.size w wr) (fun vi _ => (intOf vi).toNat)
      case atStart => exact ⟨k, Nat.le_refl _, rfl, ⟨ys, hyl, hO⟩, hB⟩
      case round =>
        clear hO hB hyl
        obtain ⟨j, hj, rfl, ⟨zs, hzl, hO⟩, hB⟩ := hrel
        by_cases h0 : 0 < j
        · obtain ⟨i, rfl⟩ : ∃ i, j = i + 1 := ⟨j - 1, by omega⟩
          obtain ⟨g, o, rfl, hc1, hf1, -, hg1⟩ := hO.at (k := i + 1) (by omega)
          obtain ⟨g2, o2, e2, hc2, hf2, -, -⟩ := hO.at (k := i) (by omega)
          obtain ⟨rfl, rfl⟩ : g = g2 ∧ o = o2 := by simpa using e2
          have hcast : ((i + 1 : Nat) : Int) = (i : Int) + 1 := by omega
          have hw1 : IntKind.i64.wrap ((i : Int) + 1 - 1) = (i : Int) := by rw [Int.add_sub_cancel]; simp [IntKind.wrap, IntKind.bits, IntKind.signed]; omega
          have hd0 : decide (0 < (i : Int) + 1) = true := decide_eq_true (by omega)
          have hi1 : (i : Int) + 1 < (m.length : Int) := by omega
          have hi2 : (i : Int) < (m.length : Int) := by omega
          have hi0 : 0 ≤ (i : Int) + 1 := by omega
          have Hzl := Lib.hid hzl
          have hset := fun x y => (hO.set (k := i + 1) (x := x) (by omega)).set (k := i) (x := y) (by simp; omega)
          have hset1 : ∀ x, ∃ z, (wr.setCell ⟨g, o + (i + 1), none⟩ (fI x)).cell? ⟨g, o + i, none⟩ = some z ∧ (wr.setCell ⟨g, o + (i + 1), none⟩ (fI x)).frozen? ⟨g, o + i, none⟩ = false := fun x => by
            obtain ⟨g3, o3, e3, hc3, hf3, -, -⟩ := (hO.set (k := i + 1) (x := x) (by omega)).at (k := i) (by simp; omega)
            obtain ⟨rfl, rfl⟩ : g = g3 ∧ o = o3 := by simpa using e3
            exact ⟨_, hc3, hf3⟩
          generalize zs[i + 1]'(by have := Hzl.out; omega) = x at *
          generalize zs[i]'(by have := Hzl.out; omega) = y at *
          have hO2 := hset y x
          obtain ⟨z3, hc3, hf3⟩ := hset1 y
          have hlo := (hO.lt g rfl).1
          have hB2 := fun q => ((below_drewN hB q).setCell (p := ⟨g, o + (i + 1), none⟩) hlo (fI y)).setCell (p := ⟨g, o + i, none⟩) hlo (fI x)
          clear hset hset1 e2
          simp only [fI] at hO2 hB2 hc1 hc2 hc3 hf3
          simp only [hcast]
          by_cases hxy : x < y
          · have hd : decide (x < y) = true := decide_eq_true hxy
            clear hxy
            go_wp2_with fail
            go_quiet (fail)
            go_wp2_with fail
            go_roundw
            case rel => exact ⟨i, by omega, by go_num, ⟨_, by simp; exact Hzl.out, hO2⟩, hB2 _⟩
            case measure => simp [intOf]
          · have hd : decide (x < y) = false := decide_eq_false hxy
            clear hxy hO2 hB2 hc3 hf3
            go_wp2_with fail
            go_quiet (fail)
            go_wp2_with fail
            go_roundw
            case rel => exact ⟨k + 1, by omega, by omega, by go_num, ⟨zs, hzl, hO.below (below_drewN (Below.refl _ _) _)⟩, below_drewN hB _⟩
            case measure => simp [intOf]; omega
        · obtain rfl : j = 0 := by omega
          have hcast : ((0 : Nat) : Int) = 0 := rfl
          simp only [hcast]
          go_wp2_with fail
          go_quiet (fail)
          go_wp2_with fail
          go_roundw
          case rel => exact ⟨k + 1, by omega, by omega, by go_num, ⟨zs, hzl, hO.below (below_drewN (Below.refl _ _) _)⟩, below_drewN hB _⟩
          case measure => simp [intOf]; omega
    · have hf : m.length ≤ k := by omega
      clear hlt
      go_wp2_with fail
      go_ret
      exact ⟨ys, A1, c1, by rw [hyl]; rfl, hO, hyl, hB⟩
end Go.Proofs.Ytcckipckgnkieaa
