/-
  Stages as data: sizes.
-/
import Derived.Test.YtcckipckgnkieaaPlSt2
namespace Go.Proofs.Ytcckipckgnkieaa
open Go.RowKit
set_option linter.unusedVariables false

theorem szStage_any (A : Option Addr) (n c : Nat) (g left : Int) (w : World) (hn : n ≤ maxLen) (h0 : 0 ≤ left) (h1 : left ≤ 1048576) :
    Calls Try.prog 79 #[.agg #[.slice A n c, .int .i64 g], .int .i64 left] w fun e w' => e = .returned (.int .i64 (if (n : Int) ≤ left then left - n else -1)) ∧ Below w.heap.size w w' := by
  have hB := (Below.refl w.heap.size w).alloc (Nat.le_refl _) (.cells #[.slice A n c, .int .i64 g] 87)
  have Hn := Lib.hid hn
  unfold maxLen at hn
  go_enter Try.func79, Try.ntmps79
  go_wp2_with fail
  refine (szI1_any A n c left _ Hn.out h0 h1).mono ?_
  rintro e w' ⟨rfl, rfl⟩
  by_cases hv : (n : Int) ≤ left
  · rw [if_pos hv]
    have hv2 : ¬ (left - n : Int) < 0 := by omega
    go_wp2_with fail
    go_ret
    exact ⟨rfl, hB⟩
  · rw [if_neg hv]
    go_wp2_with fail
    go_ret
    exact ⟨rfl, hB⟩
def totP (p : Pl) : Nat → Nat
  | 0 => 0
  | k + 1 => totP p k + (ph p k).length
set_option maxHeartbeats 800000 in
theorem szStageS_any (p : Pl) (S : Option Addr) (c : Nat) (left : Int) (w : World) (hr : RdG w S p) (hn : p.sg.length ≤ maxLen) (hl : ∀ k, k < p.sg.length → (ph p k).length ≤ maxLen) (h0 : 0 ≤ left) (h1 : left ≤ 1048576) :
    Calls Try.prog 46 #[.slice S p.sg.length c, .int .i64 left] w fun e w' => (∃ v, e = .returned (.int .i64 v) ∧ szG p.sg.length (totP p p.sg.length) left v) ∧ Below w.heap.size w w' := by
  have hn2 := hn
  unfold maxLen at hn2
  by_cases hle : (p.sg.length : Int) ≤ left
  case neg =>
    go_enter Try.func46, Try.ntmps46
    go_wp2_with fail
    go_ret
    exact ⟨⟨-1, rfl, .inl rfl⟩, Below.refl _ _⟩
  go_enter Try.func46, Try.ntmps46
  go_wp2_with fail
  go_loopw [1, 5] (fun v1 vi wr => ∃ k : Nat, k ≤ p.sg.length ∧ vi = .int .i64 k ∧ (∃ u, v1 = .int .i64 u ∧ 0 ≤ u ∧ Hid (u = left - p.sg.length - totP p k)) ∧ Below w.heap.size w wr) (fun _ vi _ => p.sg.length - (intOf vi).toNat)
  case atStart => exact ⟨0, Nat.zero_le _, rfl, ⟨_, rfl, by omega, Lib.hid (by simp [totP])⟩, Below.refl _ _⟩
  case round =>
    obtain ⟨k, hk, rfl, ⟨u, rfl, hu0, hu⟩, hB⟩ := hrel
    have hu1 : u ≤ left := by have := hu.out; omega
    by_cases hlt : k < p.sg.length
    · obtain ⟨b, o, A, c', rfl, e1, e2, -⟩ := hr.go (w' := w) hlt
      have q1 := (hB.cell (World.block_lt_of_cell? w _ e1)).trans e1
      have q2 := (hB.cell (World.block_lt_of_cell? w _ e2)).trans e2
      have Htk := Lib.hid (show totP p (k + 1) = totP p k + (ph p k).length from rfl)
      have hlk := hl k hlt
      have Hlk := Lib.hid hlk
      clear e1 e2
      generalize (ph p k).length = n at *
      generalize gr p k = g at *
      unfold maxLen at hlk
      go_wp2_with fail
      refine (szStage_any A n c' g u _ Hlk.out hu0 (by omega)).mono ?_
      rintro e w2 ⟨rfl, v2⟩
      have hB2 := hB.trans (v2.mono hB.size)
      clear q1 q2 hB v2
      by_cases hv : (n : Int) ≤ u
      · rw [if_pos hv]
        have hv2 : ¬ (u - n : Int) < 0 := by omega
        have Hu2 := Lib.hid (show u - n = left - p.sg.length - totP p (k + 1) by have := hu.out; have := Htk.out; omega)
        go_wp2_with fail
        go_roundw
        case rel => exact ⟨k + 1, by omega, by go_num, ⟨_, rfl, by omega, Hu2⟩, hB2⟩
        case measure => simp [intOf]; omega
      · rw [if_neg hv]
        go_wp2_with fail
        go_ret
        exact ⟨⟨-1, rfl, .inl rfl⟩, hB2⟩
    · obtain rfl : k = p.sg.length := by omega
      go_wp2_with fail
      go_ret
      exact ⟨⟨u, rfl, .inr ⟨hu0, hu.out⟩⟩, hB⟩
set_option maxRecDepth 100000 in
set_option maxHeartbeats 800000 in
theorem szPlan_any (p : Pl) (T S : Option Addr) (c d : Nat) (left : Int) (w : World) (hl0 : 0 ≤ left) (hl1 : left ≤ 1048576) (hT : RdSS fI w T p.tb) (hr : RdG w S p) (ht : p.tb.length ≤ maxLen) (htr : ∀ k (h : k < p.tb.length), p.tb[k].length ≤ maxLen) (hn : p.sg.length ≤ maxLen) (hl : ∀ k, k < p.sg.length → (ph p k).length ≤ maxLen) :
    Calls Try.prog 17 #[plV p T c S d, .int .i64 left] w fun e w' => (∃ v, e = .returned (.int .i64 v) ∧ (v = -1 ∨ (0 ≤ v ∧ p.tb.length + tot p.tb + p.sg.length + totP p p.sg.length ≤ left))) ∧ Below w.heap.size w w' := by
  have hB := (Below.refl w.heap.size w).alloc (Nat.le_refl _) (.cells (plC p T c S d) 37)
  have bx := Blk.new w 37 (plC p T c S d)
  go_enter Try.func17, Try.ntmps17
  go_wp2_with fail
  refine (szIntSS_any p.tb T c left _ (hT.below hB) ht htr hl0 hl1).mono ?_
  rintro e w1 ⟨⟨v, rfl, hv⟩, v1⟩
  have k1 : w1.cell? ⟨w.heap.size, 1, none⟩ = some (.slice S p.sg.length d) := (bx.below v1 (by simp)).cell 1
  have V1 := hB.trans (v1.mono hB.size)
  clear bx v1 hB
  rcases hv with rfl | ⟨hv0, hv1⟩
  · go_wp2_with fail
    go_ret
    exact ⟨⟨-1, rfl, .inl rfl⟩, V1⟩
  · have hv2 : ¬ v < 0 := by omega
    have hvle : v ≤ 1048576 := by omega
    have Hv1 := Lib.hid hv1
    clear hv1
    go_wp2_with fail
    refine (szStageS_any p S d v _ (hr.below V1) hn hl hv0 hvle).mono ?_
    rintro e w2 ⟨⟨u, rfl, hu⟩, v2⟩
    have V2 := V1.trans (v2.mono V1.size)
    clear v2 k1
    rcases hu with rfl | ⟨hu0, hu1⟩
    · go_wp2_with fail
      go_ret
      exact ⟨⟨-1, rfl, .inl rfl⟩, V2⟩
    · have hu2 : ¬ u < 0 := by omega
      have Hf := Lib.hid (show p.tb.length + tot p.tb + p.sg.length + totP p p.sg.length ≤ left by have := Hv1.out; omega)
      clear hu1
      go_wp2_with fail
      go_ret
      exact ⟨⟨u, rfl, .inr ⟨hu0, Hf.out⟩⟩, V2⟩
end Go.Proofs.Ytcckipckgnkieaa
