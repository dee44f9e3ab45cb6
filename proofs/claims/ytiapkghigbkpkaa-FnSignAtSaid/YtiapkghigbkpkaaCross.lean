/-
  Crossings: the contracts of the program's and the reference's functions on walking.
-/
import Derived.Test.YtiapkghigbkpkaaRows
import Derived.Test.YtiapkghigbkpkaaBase
namespace Go.Proofs.Ytiapkghigbkpkaa
open Go.RowKit

def inB (x lo hi : Int) : Bool := decide (lo ≤ x) && decide (x ≤ hi)
def validC (l s k : Int) : Bool := inB l 1 300 && inB s 1 30 && inB k 4 300
def flash (l s : Int) : Int := (l + s - 1) / s
def flashF (l s k : Int) : Int := if validC l s k then flash l s else -1
def crossedF (l s k t : Int) : Int := if validC l s k && inB t 0 (k - 1) then t + flash l s else -1
def stageF (l s k : Int) : Int := if validC l s k then (if 40 < max 5 (k + flash l s) then 0 else max 5 (k + flash l s)) else -1
def signF (l s k t : Int) : Int := if validC l s k then (if t < 0 then 0 else if t < k then 1 else if t < k + flash l s then 2 else 0) else 3

abbrev cr (l s k : Int) : Value := .agg #[.int .i64 l, .int .i64 s, .int .i64 k]

theorem validC_bd {l s k : Int} (h : validC l s k = true) : 1 ≤ l ∧ l ≤ 300 ∧ 1 ≤ s ∧ s ≤ 30 ∧ 4 ≤ k ∧ k ≤ 300 := by
  simp [validC, inB] at h; omega
theorem flash_bd {l s : Int} (h1 : 1 ≤ l) (h2 : l ≤ 300) (h3 : 1 ≤ s) : 1 ≤ flash l s ∧ flash l s ≤ 300 := by
  unfold flash
  constructor
  · apply Int.le_ediv_of_mul_le (by omega); omega
  · have : (l + s - 1) / s < 301 := by
      apply Int.ediv_lt_of_lt_mul (by omega)
      have : 301 * s = 300 * s + s := by omega
      have h5 : 300 * 1 ≤ 300 * s := by omega
      omega
    omega

theorem within_any (x lo hi : Int) (w : World) :
    Calls Try.prog 28 #[.int .i64 x, .int .i64 lo, .int .i64 hi] w fun e w' => e = .returned (.bool (inB x lo hi)) ∧ w = w' := by
  go_enter Try.func28, Try.ntmps28
  go_wp2
  all_goals go_ret
  all_goals (refine ⟨?_, rfl⟩; simp [inB, *]; try omega)
theorem inRange_any (x lo hi : Int) (w : World) :
    Calls Try.prog 27 #[.int .i64 x, .int .i64 lo, .int .i64 hi] w fun e w' => e = .returned (.bool (inB x lo hi)) ∧ w = w' := by
  go_enter Try.func27, Try.ntmps27
  go_wp2
  all_goals go_ret
  all_goals (refine ⟨?_, rfl⟩; simp [inB, *]; try omega)

theorem valid_any (l s k : Int) (w : World) :
    Calls Try.prog 26 #[cr l s k] w fun e w' => e = .returned (.bool (validC l s k)) ∧ Below w.heap.size w w' := by
  go_enter Try.func26, Try.ntmps26
  go_wp2_with (go_at_call 28; refine (within_any _ _ _ _).mono ?_; rintro e w' ⟨rfl, rfl⟩)
  all_goals go_ret
  all_goals (refine ⟨?_, (Below.refl _ _).alloc (Nat.le_refl _) _⟩; simp_all [validC])
theorem validCrossing_any (l s k : Int) (w : World) :
    Calls Try.prog 24 #[cr l s k] w fun e w' => e = .returned (.bool (validC l s k)) ∧ Below w.heap.size w w' := by
  go_enter Try.func24, Try.ntmps24
  go_wp2_with (go_at_call 27; refine (inRange_any _ _ _ _).mono ?_; rintro e w' ⟨rfl, rfl⟩)
  all_goals go_ret
  all_goals (refine ⟨?_, (Below.refl _ _).alloc (Nat.le_refl _) _⟩; simp_all [validC])

theorem flashOf_any (l s k : Int) (w : World) (h : validC l s k = true) :
    Calls Try.prog 25 #[cr l s k] w fun e w' => e = .returned (.int .i64 (flash l s)) ∧ Below w.heap.size w w' := by
  obtain ⟨h1, h2, h3, h4, h5, h6⟩ := validC_bd h
  clear h
  have h7 : 0 ≤ l + s - 1 := by omega
  go_enter Try.func25, Try.ntmps25
  go_wp2
  go_ret
  exact ⟨rfl, (Below.refl _ _).alloc (Nat.le_refl _) _⟩

/-- The facts of a boxed crossing at block b, in every world that has grown. -/
theorem box_cells (w : World) (l s k : Int) :
    (∀ y : Grow (w.alloc (.cells #[.int .i64 l, .int .i64 s, .int .i64 k] 25)), y.x.cell? ⟨w.heap.size, 0, none⟩ = some (.int .i64 l)) ∧
    (∀ y : Grow (w.alloc (.cells #[.int .i64 l, .int .i64 s, .int .i64 k] 25)), y.x.cell? ⟨w.heap.size, 1, none⟩ = some (.int .i64 s)) ∧
    (∀ y : Grow (w.alloc (.cells #[.int .i64 l, .int .i64 s, .int .i64 k] 25)), y.x.cell? ⟨w.heap.size, 2, none⟩ = some (.int .i64 k)) :=
  ⟨Grow.cell ((Blk.new w _ _).cell 0), Grow.cell ((Blk.new w _ _).cell 1), Grow.cell ((Blk.new w _ _).cell 2)⟩

theorem iFlash_any (l s k : Int) (w : World) :
    Calls Try.prog 13 #[cr l s k] w fun e w' => e = .returned (.int .i64 (flashF l s k)) ∧ Below w.heap.size w w' := by
  obtain ⟨g0, g1, g2⟩ := box_cells w l s k
  by_cases h : validC l s k = true
  · have hv := Lib.hid (show flashF l s k = flash l s by simp [flashF, h])
    obtain ⟨h1, h2, h3, h4, h5, h6⟩ := validC_bd h
    have h7 : 0 ≤ l + s - 1 := by omega
    go_enter Try.func13, Try.ntmps13
    go_wp2_with (go_at_call 26; refine (valid_any _ _ _ _).mono ?_; rintro e w' ⟨rfl, hb⟩; obtain ⟨y, rfl⟩ := Grow.first hb)
    go_ret
    exact ⟨by rw [hv.out]; rfl, y.out⟩
  · have h : validC l s k = false := by simpa using h
    have hv := Lib.hid (show flashF l s k = -1 by simp [flashF, h])
    go_enter Try.func13, Try.ntmps13
    go_wp2_with (go_at_call 26; refine (valid_any _ _ _ _).mono ?_; rintro e w' ⟨rfl, hb⟩; obtain ⟨y, rfl⟩ := Grow.first hb)
    go_ret
    exact ⟨by rw [hv.out]; rfl, y.out⟩

theorem sFlash_any (l s k : Int) (w : World) :
    Calls Try.prog 11 #[cr l s k] w fun e w' => e = .returned (.int .i64 (flashF l s k)) ∧ Below w.heap.size w w' := by
  obtain ⟨g0, g1, g2⟩ := box_cells w l s k
  by_cases h : validC l s k = true
  · have hv := Lib.hid (show flashF l s k = flash l s by simp [flashF, h])
    have hfl := fun w => flashOf_any l s k w h
    go_enter Try.func11, Try.ntmps11
    go_wp2_with (first
      | (go_at_call 24; refine (validCrossing_any _ _ _ _).mono ?_; rintro e w' ⟨rfl, hb⟩; obtain ⟨y, rfl⟩ := Grow.first hb)
      | (go_at_call 25; refine (flashOf_any _ _ _ _ h).mono ?_; rintro e w' ⟨rfl, hb⟩; obtain ⟨z, rfl⟩ := Grow.step hb))
    go_ret
    exact ⟨by rw [hv.out]; rfl, z.out⟩
  · have h : validC l s k = false := by simpa using h
    have hv := Lib.hid (show flashF l s k = -1 by simp [flashF, h])
    go_enter Try.func11, Try.ntmps11
    go_wp2_with (go_at_call 24; refine (validCrossing_any _ _ _ _).mono ?_; rintro e w' ⟨rfl, hb⟩; obtain ⟨y, rfl⟩ := Grow.first hb)
    go_ret
    exact ⟨by rw [hv.out]; rfl, y.out⟩

theorem iFlash_yes (l s k : Int) (w : World) (h : validC l s k = true) :
    Calls Try.prog 13 #[cr l s k] w fun e w' => e = .returned (.int .i64 (flash l s)) ∧ Below w.heap.size w w' := by
  have := iFlash_any l s k w
  rwa [show flashF l s k = flash l s by simp [flashF, h]] at this

theorem iStage_any (l s k : Int) (w : World) :
    Calls Try.prog 17 #[cr l s k] w fun e w' => e = .returned (.int .i64 (stageF l s k)) ∧ Below w.heap.size w w' := by
  obtain ⟨g0, g1, g2⟩ := box_cells w l s k
  by_cases h : validC l s k = true
  · obtain ⟨h1, h2, h3, h4, h5, h6⟩ := validC_bd h
    obtain ⟨f1, f2⟩ := flash_bd h1 h2 h3
    rcases (show 40 < k + flash l s ∨ (5 < k + flash l s ∧ k + flash l s ≤ 40) ∨ k + flash l s ≤ 5 by omega) with hq | ⟨hq, hq2⟩ | hq
    · have hv := Lib.hid (show stageF l s k = 0 by simp only [stageF, h, if_true]; omega)
      go_enter Try.func17, Try.ntmps17
      go_wp2_with (go_at_call 26; refine (valid_any _ _ _ _).mono ?_; rintro e w' ⟨rfl, hb⟩; obtain ⟨y, rfl⟩ := Grow.first hb)
      refine wp_region_grow _ (by kernel_rfl) (by kernel_rfl) y.h ?_
      repeat (go_big_quiet_step ((go_at_call 13; exact grow_of (iFlash_yes _ _ _ _ h))))
      refine wpQuiet_nil ?_
      rintro _ ⟨z, rfl⟩
      go_wp2
      go_ret
      exact ⟨by rw [hv.out]; rfl, z.out⟩
    · have hv := Lib.hid (show stageF l s k = k + flash l s by simp only [stageF, h, if_true]; omega)
      go_enter Try.func17, Try.ntmps17
      go_wp2_with (go_at_call 26; refine (valid_any _ _ _ _).mono ?_; rintro e w' ⟨rfl, hb⟩; obtain ⟨y, rfl⟩ := Grow.first hb)
      refine wp_region_grow _ (by kernel_rfl) (by kernel_rfl) y.h ?_
      repeat (go_big_quiet_step ((go_at_call 13; exact grow_of (iFlash_yes _ _ _ _ h))))
      refine wpQuiet_nil ?_
      rintro _ ⟨z, rfl⟩
      go_wp2
      go_ret
      exact ⟨by rw [hv.out]; rfl, z.out⟩
    · have hv := Lib.hid (show stageF l s k = 5 by simp only [stageF, h, if_true]; omega)
      go_enter Try.func17, Try.ntmps17
      go_wp2_with (go_at_call 26; refine (valid_any _ _ _ _).mono ?_; rintro e w' ⟨rfl, hb⟩; obtain ⟨y, rfl⟩ := Grow.first hb)
      refine wp_region_grow _ (by kernel_rfl) (by kernel_rfl) y.h ?_
      repeat (go_big_quiet_step ((go_at_call 13; exact grow_of (iFlash_yes _ _ _ _ h))))
      refine wpQuiet_nil ?_
      rintro _ ⟨z, rfl⟩
      go_wp2
      go_ret
      exact ⟨by rw [hv.out]; rfl, z.out⟩
  · have h : validC l s k = false := by simpa using h
    have hv := Lib.hid (show stageF l s k = -1 by simp [stageF, h])
    go_enter Try.func17, Try.ntmps17
    go_wp2_with (first
      | (go_at_call 26; refine (valid_any _ _ _ _).mono ?_; rintro e w' ⟨rfl, hb⟩; obtain ⟨y, rfl⟩ := Grow.first hb))
    go_ret
    exact ⟨by rw [hv.out]; rfl, y.out⟩

theorem sStage_any (l s k : Int) (w : World) :
    Calls Try.prog 16 #[cr l s k] w fun e w' => e = .returned (.int .i64 (stageF l s k)) ∧ Below w.heap.size w w' := by
  obtain ⟨g0, g1, g2⟩ := box_cells w l s k
  by_cases h : validC l s k = true
  · obtain ⟨h1, h2, h3, h4, h5, h6⟩ := validC_bd h
    obtain ⟨f1, f2⟩ := flash_bd h1 h2 h3
    rcases (show 40 < k + flash l s ∨ (5 < k + flash l s ∧ k + flash l s ≤ 40) ∨ k + flash l s ≤ 5 by omega) with hq | ⟨hq, hq2⟩ | hq
    · have hv := Lib.hid (show stageF l s k = 0 by simp only [stageF, h, if_true]; omega)
      go_enter Try.func16, Try.ntmps16
      go_wp2_with (go_at_call 24; refine (validCrossing_any _ _ _ _).mono ?_; rintro e w' ⟨rfl, hb⟩; obtain ⟨y, rfl⟩ := Grow.first hb)
      refine wp_region_grow _ (by kernel_rfl) (by kernel_rfl) y.h ?_
      repeat (go_big_quiet_step ((go_at_call 25; exact grow_of (flashOf_any _ _ _ _ h))))
      refine wpQuiet_nil ?_
      rintro _ ⟨z, rfl⟩
      go_wp2
      go_ret
      exact ⟨by rw [hv.out]; rfl, z.out⟩
    · have hv := Lib.hid (show stageF l s k = k + flash l s by simp only [stageF, h, if_true]; omega)
      go_enter Try.func16, Try.ntmps16
      go_wp2_with (go_at_call 24; refine (validCrossing_any _ _ _ _).mono ?_; rintro e w' ⟨rfl, hb⟩; obtain ⟨y, rfl⟩ := Grow.first hb)
      refine wp_region_grow _ (by kernel_rfl) (by kernel_rfl) y.h ?_
      repeat (go_big_quiet_step ((go_at_call 25; exact grow_of (flashOf_any _ _ _ _ h))))
      refine wpQuiet_nil ?_
      rintro _ ⟨z, rfl⟩
      go_wp2
      go_ret
      exact ⟨by rw [hv.out]; rfl, z.out⟩
    · have hv := Lib.hid (show stageF l s k = 5 by simp only [stageF, h, if_true]; omega)
      go_enter Try.func16, Try.ntmps16
      go_wp2_with (go_at_call 24; refine (validCrossing_any _ _ _ _).mono ?_; rintro e w' ⟨rfl, hb⟩; obtain ⟨y, rfl⟩ := Grow.first hb)
      refine wp_region_grow _ (by kernel_rfl) (by kernel_rfl) y.h ?_
      repeat (go_big_quiet_step ((go_at_call 25; exact grow_of (flashOf_any _ _ _ _ h))))
      refine wpQuiet_nil ?_
      rintro _ ⟨z, rfl⟩
      go_wp2
      go_ret
      exact ⟨by rw [hv.out]; rfl, z.out⟩
  · have h : validC l s k = false := by simpa using h
    have hv := Lib.hid (show stageF l s k = -1 by simp [stageF, h])
    go_enter Try.func16, Try.ntmps16
    go_wp2_with (first
      | (go_at_call 24; refine (validCrossing_any _ _ _ _).mono ?_; rintro e w' ⟨rfl, hb⟩; obtain ⟨y, rfl⟩ := Grow.first hb))
    go_ret
    exact ⟨by rw [hv.out]; rfl, y.out⟩

theorem iCrossed_any (l s k t : Int) (w : World) :
    Calls Try.prog 15 #[cr l s k, .int .i64 t] w fun e w' => e = .returned (.int .i64 (crossedF l s k t)) ∧ Below w.heap.size w w' := by
  obtain ⟨g0, g1, g2⟩ := box_cells w l s k
  by_cases h : validC l s k = true
  · obtain ⟨h1, h2, h3, h4, h5, h6⟩ := validC_bd h
    obtain ⟨f1, f2⟩ := flash_bd h1 h2 h3
    by_cases hm : inB t 0 (k - 1) = true
    · have hv := Lib.hid (show crossedF l s k t = t + flash l s by simp [crossedF, h, hm])
      have ht : 0 ≤ t ∧ t ≤ k - 1 := by simpa [inB] using hm
      obtain ⟨t1, t2⟩ := ht
      go_enter Try.func15, Try.ntmps15
      go_wp2_with (first
      | (go_at_call 26; refine (valid_any _ _ _ _).mono ?_; rintro e w' ⟨rfl, hb⟩; obtain ⟨y, rfl⟩ := Grow.first hb)
      | (go_at_call 28; refine (within_any _ _ _ _).mono ?_; rintro e w' ⟨rfl, rfl⟩)
      | (go_at_call 13; refine (iFlash_yes _ _ _ _ h).mono ?_; rintro e w' ⟨rfl, hb⟩; obtain ⟨z, rfl⟩ := Grow.step hb))
      go_ret
      exact ⟨by rw [hv.out]; rfl, z.out⟩
    · have hm : inB t 0 (k - 1) = false := by simpa using hm
      have hv := Lib.hid (show crossedF l s k t = -1 by simp [crossedF, hm])
      go_enter Try.func15, Try.ntmps15
      go_wp2_with (first
      | (go_at_call 26; refine (valid_any _ _ _ _).mono ?_; rintro e w' ⟨rfl, hb⟩; obtain ⟨y, rfl⟩ := Grow.first hb)
      | (go_at_call 28; refine (within_any _ _ _ _).mono ?_; rintro e w' ⟨rfl, rfl⟩)
      | (go_at_call 13; refine (iFlash_yes _ _ _ _ h).mono ?_; rintro e w' ⟨rfl, hb⟩; obtain ⟨z, rfl⟩ := Grow.step hb))
      go_ret
      exact ⟨by rw [hv.out]; rfl, y.out⟩
  · have h : validC l s k = false := by simpa using h
    have hv := Lib.hid (show crossedF l s k t = -1 by simp [crossedF, h])
    go_enter Try.func15, Try.ntmps15
    go_wp2_with (first
      | (go_at_call 26; refine (valid_any _ _ _ _).mono ?_; rintro e w' ⟨rfl, hb⟩; obtain ⟨y, rfl⟩ := Grow.first hb))
    go_ret
    exact ⟨by rw [hv.out]; rfl, y.out⟩

theorem sCrossed_any (l s k t : Int) (w : World) :
    Calls Try.prog 14 #[cr l s k, .int .i64 t] w fun e w' => e = .returned (.int .i64 (crossedF l s k t)) ∧ Below w.heap.size w w' := by
  obtain ⟨g0, g1, g2⟩ := box_cells w l s k
  by_cases h : validC l s k = true
  · obtain ⟨h1, h2, h3, h4, h5, h6⟩ := validC_bd h
    obtain ⟨f1, f2⟩ := flash_bd h1 h2 h3
    by_cases hm : inB t 0 (k - 1) = true
    · have hv := Lib.hid (show crossedF l s k t = t + flash l s by simp [crossedF, h, hm])
      have ht : 0 ≤ t ∧ t ≤ k - 1 := by simpa [inB] using hm
      obtain ⟨t1, t2⟩ := ht
      go_enter Try.func14, Try.ntmps14
      go_wp2_with (first
      | (go_at_call 24; refine (validCrossing_any _ _ _ _).mono ?_; rintro e w' ⟨rfl, hb⟩; obtain ⟨y, rfl⟩ := Grow.first hb)
      | (go_at_call 27; refine (inRange_any _ _ _ _).mono ?_; rintro e w' ⟨rfl, rfl⟩)
      | (go_at_call 25; refine (flashOf_any _ _ _ _ h).mono ?_; rintro e w' ⟨rfl, hb⟩; obtain ⟨z, rfl⟩ := Grow.step hb))
      go_ret
      exact ⟨by rw [hv.out]; rfl, z.out⟩
    · have hm : inB t 0 (k - 1) = false := by simpa using hm
      have hv := Lib.hid (show crossedF l s k t = -1 by simp [crossedF, hm])
      go_enter Try.func14, Try.ntmps14
      go_wp2_with (first
      | (go_at_call 24; refine (validCrossing_any _ _ _ _).mono ?_; rintro e w' ⟨rfl, hb⟩; obtain ⟨y, rfl⟩ := Grow.first hb)
      | (go_at_call 27; refine (inRange_any _ _ _ _).mono ?_; rintro e w' ⟨rfl, rfl⟩)
      | (go_at_call 25; refine (flashOf_any _ _ _ _ h).mono ?_; rintro e w' ⟨rfl, hb⟩; obtain ⟨z, rfl⟩ := Grow.step hb))
      go_ret
      exact ⟨by rw [hv.out]; rfl, y.out⟩
  · have h : validC l s k = false := by simpa using h
    have hv := Lib.hid (show crossedF l s k t = -1 by simp [crossedF, h])
    go_enter Try.func14, Try.ntmps14
    go_wp2_with (first
      | (go_at_call 24; refine (validCrossing_any _ _ _ _).mono ?_; rintro e w' ⟨rfl, hb⟩; obtain ⟨y, rfl⟩ := Grow.first hb))
    go_ret
    exact ⟨by rw [hv.out]; rfl, y.out⟩

theorem walkOf_any (l s k t : Int) (w : World) (h : validC l s k = true) :
    Calls Try.prog 29 #[cr l s k, .int .i64 t] w fun e w' => e = .returned (.int .i64 (signF l s k t)) ∧ Below w.heap.size w w' := by
    obtain ⟨g0, g1, g2⟩ := box_cells w l s k
    obtain ⟨h1, h2, h3, h4, h5, h6⟩ := validC_bd h
    obtain ⟨f1, f2⟩ := flash_bd h1 h2 h3
    rcases (show t < 0 ∨ (0 ≤ t ∧ t < k) ∨ (k ≤ t ∧ t < k + flash l s) ∨ k + flash l s ≤ t by omega) with hq | ⟨hq, hq2⟩ | ⟨hq, hq2⟩ | hq
    · have hv := Lib.hid (show signF l s k t = 0 by simp only [signF, h, if_true]; omega)
      have hd : decide (t < 0) = true := by simp; omega
      go_enter Try.func29, Try.ntmps29
      go_wp2
      refine wp_region_grow _ (by kernel_rfl) (by kernel_rfl) (Below.refl _ _) ?_
      repeat (go_big_quiet_step ((go_at_call 25; exact grow_of (flashOf_any _ _ _ _ h))))
      refine wpQuiet_nil ?_
      rintro _ ⟨z, rfl⟩
      go_wp2
      go_ret
      exact ⟨by rw [hv.out]; rfl, z.out⟩
    · have hv := Lib.hid (show signF l s k t = 1 by simp only [signF, h, if_true]; omega)
      have hd : decide (t < 0) = false := by simp; omega
      go_enter Try.func29, Try.ntmps29
      go_wp2
      refine wp_region_grow _ (by kernel_rfl) (by kernel_rfl) (Below.refl _ _) ?_
      repeat (go_big_quiet_step ((go_at_call 25; exact grow_of (flashOf_any _ _ _ _ h))))
      refine wpQuiet_nil ?_
      rintro _ ⟨z, rfl⟩
      go_wp2
      go_ret
      exact ⟨by rw [hv.out]; rfl, z.out⟩
    · have hv := Lib.hid (show signF l s k t = 2 by simp only [signF, h, if_true]; omega)
      have hd : decide (t < 0) = false := by simp; omega
      go_enter Try.func29, Try.ntmps29
      go_wp2
      refine wp_region_grow _ (by kernel_rfl) (by kernel_rfl) (Below.refl _ _) ?_
      repeat (go_big_quiet_step ((go_at_call 25; exact grow_of (flashOf_any _ _ _ _ h))))
      refine wpQuiet_nil ?_
      rintro _ ⟨z, rfl⟩
      go_wp2
      go_ret
      exact ⟨by rw [hv.out]; rfl, z.out⟩
    · have hv := Lib.hid (show signF l s k t = 0 by simp only [signF, h, if_true]; omega)
      have hd : decide (t < 0) = false := by simp; omega
      go_enter Try.func29, Try.ntmps29
      go_wp2
      refine wp_region_grow _ (by kernel_rfl) (by kernel_rfl) (Below.refl _ _) ?_
      repeat (go_big_quiet_step ((go_at_call 25; exact grow_of (flashOf_any _ _ _ _ h))))
      refine wpQuiet_nil ?_
      rintro _ ⟨z, rfl⟩
      go_wp2
      go_ret
      exact ⟨by rw [hv.out]; rfl, z.out⟩

theorem sSign_any (l s k t : Int) (w : World) :
    Calls Try.prog 18 #[cr l s k, .int .i64 t] w fun e w' => e = .returned (.int .i64 (signF l s k t)) ∧ Below w.heap.size w w' := by
  obtain ⟨g0, g1, g2⟩ := box_cells w l s k
  by_cases h : validC l s k = true
  · go_enter Try.func18, Try.ntmps18
    go_wp2_with (first
      | (go_at_call 24; refine (validCrossing_any _ _ _ _).mono ?_; rintro e w' ⟨rfl, hb⟩; obtain ⟨y, rfl⟩ := Grow.first hb)
      | (go_at_call 29; refine (walkOf_any _ _ _ _ _ h).mono ?_; rintro e w' ⟨rfl, hb⟩; obtain ⟨z, rfl⟩ := Grow.step hb))
    go_ret
    exact ⟨rfl, z.out⟩
  · have h : validC l s k = false := by simpa using h
    have hv := Lib.hid (show signF l s k t = 3 by simp [signF, h])
    go_enter Try.func18, Try.ntmps18
    go_wp2_with (go_at_call 24; refine (validCrossing_any _ _ _ _).mono ?_; rintro e w' ⟨rfl, hb⟩; obtain ⟨y, rfl⟩ := Grow.first hb)
    go_ret
    exact ⟨by rw [hv.out]; rfl, y.out⟩

theorem iSign_any (l s k t : Int) (w : World) :
    Calls Try.prog 19 #[cr l s k, .int .i64 t] w fun e w' => e = .returned (.int .i64 (signF l s k t)) ∧ Below w.heap.size w w' := by
  obtain ⟨g0, g1, g2⟩ := box_cells w l s k
  by_cases h : validC l s k = true
  · obtain ⟨h1, h2, h3, h4, h5, h6⟩ := validC_bd h
    obtain ⟨f1, f2⟩ := flash_bd h1 h2 h3
    rcases (show t < 0 ∨ (0 ≤ t ∧ t < k) ∨ (k ≤ t ∧ t < k + flash l s) ∨ k + flash l s ≤ t by omega) with hq | ⟨hq, hq2⟩ | ⟨hq, hq2⟩ | hq
    · have hv := Lib.hid (show signF l s k t = 0 by simp only [signF, h, if_true]; omega)
      go_enter Try.func19, Try.ntmps19
      go_wp2_with (go_at_call 26; refine (valid_any _ _ _ _).mono ?_; rintro e w' ⟨rfl, hb⟩; obtain ⟨y, rfl⟩ := Grow.first hb)
      go_ret
      exact ⟨by rw [hv.out]; rfl, y.out⟩
    · have hv := Lib.hid (show signF l s k t = 1 by simp only [signF, h, if_true]; omega)
      go_enter Try.func19, Try.ntmps19
      go_wp2_with (go_at_call 26; refine (valid_any _ _ _ _).mono ?_; rintro e w' ⟨rfl, hb⟩; obtain ⟨y, rfl⟩ := Grow.first hb)
      go_ret
      exact ⟨by rw [hv.out]; rfl, y.out⟩
    · have hv := Lib.hid (show signF l s k t = 2 by simp only [signF, h, if_true]; omega)
      go_enter Try.func19, Try.ntmps19
      go_wp2_with (go_at_call 26; refine (valid_any _ _ _ _).mono ?_; rintro e w' ⟨rfl, hb⟩; obtain ⟨y, rfl⟩ := Grow.first hb)
      refine wp_region_grow _ (by kernel_rfl) (by kernel_rfl) y.h ?_
      repeat (go_big_quiet_step ((go_at_call 13; exact grow_of (iFlash_yes _ _ _ _ h))))
      refine wpQuiet_nil ?_
      rintro _ ⟨z, rfl⟩
      go_wp2
      go_ret
      exact ⟨by rw [hv.out]; rfl, z.out⟩
    · have hv := Lib.hid (show signF l s k t = 0 by simp only [signF, h, if_true]; omega)
      go_enter Try.func19, Try.ntmps19
      go_wp2_with (go_at_call 26; refine (valid_any _ _ _ _).mono ?_; rintro e w' ⟨rfl, hb⟩; obtain ⟨y, rfl⟩ := Grow.first hb)
      refine wp_region_grow _ (by kernel_rfl) (by kernel_rfl) y.h ?_
      repeat (go_big_quiet_step ((go_at_call 13; exact grow_of (iFlash_yes _ _ _ _ h))))
      refine wpQuiet_nil ?_
      rintro _ ⟨z, rfl⟩
      go_wp2
      go_ret
      exact ⟨by rw [hv.out]; rfl, z.out⟩
  · have h : validC l s k = false := by simpa using h
    have hv := Lib.hid (show signF l s k t = 3 by simp [signF, h])
    go_enter Try.func19, Try.ntmps19
    go_wp2_with (go_at_call 26; refine (valid_any _ _ _ _).mono ?_; rintro e w' ⟨rfl, hb⟩; obtain ⟨y, rfl⟩ := Grow.first hb)
    go_ret
    exact ⟨by rw [hv.out]; rfl, y.out⟩

theorem flashF_yes {l s k : Int} (h : validC l s k = true) : flashF l s k = flash l s := by simp [flashF, h]
theorem flashF_no {l s k : Int} (h : validC l s k = false) : flashF l s k = -1 := by simp [flashF, h]
theorem iFlash_no (l s k : Int) (w : World) (h : validC l s k = false) :
    Calls Try.prog 13 #[cr l s k] w fun e w' => e = .returned (.int .i64 (-1)) ∧ Below w.heap.size w w' := by
  have := iFlash_any l s k w
  rwa [flashF_no h] at this
theorem sFlash_yes (l s k : Int) (w : World) (h : validC l s k = true) :
    Calls Try.prog 11 #[cr l s k] w fun e w' => e = .returned (.int .i64 (flash l s)) ∧ Below w.heap.size w w' := by
  have := sFlash_any l s k w
  rwa [flashF_yes h] at this
theorem sFlash_no (l s k : Int) (w : World) (h : validC l s k = false) :
    Calls Try.prog 11 #[cr l s k] w fun e w' => e = .returned (.int .i64 (-1)) ∧ Below w.heap.size w w' := by
  have := sFlash_any l s k w
  rwa [flashF_no h] at this

theorem iStage_v (l s k v : Int) (w : World) (h : stageF l s k = v) :
    Calls Try.prog 17 #[cr l s k] w fun e w' => e = .returned (.int .i64 v) ∧ Below w.heap.size w w' := by
  have := iStage_any l s k w
  rwa [h] at this
theorem sStage_v (l s k v : Int) (w : World) (h : stageF l s k = v) :
    Calls Try.prog 16 #[cr l s k] w fun e w' => e = .returned (.int .i64 v) ∧ Below w.heap.size w w' := by
  have := sStage_any l s k w
  rwa [h] at this
theorem iSign_v (l s k t v : Int) (w : World) (h : signF l s k t = v) :
    Calls Try.prog 19 #[cr l s k, .int .i64 t] w fun e w' => e = .returned (.int .i64 v) ∧ Below w.heap.size w w' := by
  have := iSign_any l s k t w
  rwa [h] at this
theorem sSign_v (l s k t v : Int) (w : World) (h : signF l s k t = v) :
    Calls Try.prog 18 #[cr l s k, .int .i64 t] w fun e w' => e = .returned (.int .i64 v) ∧ Below w.heap.size w w' := by
  have := sSign_any l s k t w
  rwa [h] at this
theorem iCrossed_v (l s k t v : Int) (w : World) (h : crossedF l s k t = v) :
    Calls Try.prog 15 #[cr l s k, .int .i64 t] w fun e w' => e = .returned (.int .i64 v) ∧ Below w.heap.size w w' := by
  have := iCrossed_any l s k t w
  rwa [h] at this
theorem sCrossed_v (l s k t v : Int) (w : World) (h : crossedF l s k t = v) :
    Calls Try.prog 14 #[cr l s k, .int .i64 t] w fun e w' => e = .returned (.int .i64 v) ∧ Below w.heap.size w w' := by
  have := sCrossed_any l s k t w
  rwa [h] at this

theorem crossedF_no {l s k t : Int} (h : ¬ (validC l s k = true ∧ 0 ≤ t ∧ t < k)) : crossedF l s k t = -1 := by
  rw [crossedF, if_neg]
  intro hh
  simp [inB] at hh
  exact h ⟨hh.1, by omega, by omega⟩
/-- The quotient rounded up. -/
theorem flash_lo {l s : Int} (h3 : 1 ≤ s) : l ≤ flash l s * s ∧ flash l s * s ≤ l + s - 1 := by
  unfold flash
  have h1 := Int.emod_add_mul_ediv (l + s - 1) s
  have h2 := Int.emod_nonneg (l + s - 1) (show s ≠ 0 by omega)
  have h4 := Int.emod_lt_of_pos (l + s - 1) (show 0 < s by omega)
  have h5 : s * ((l + s - 1) / s) = (l + s - 1) / s * s := Int.mul_comm _ _
  omega
theorem flash_faster {l s : Int} (h1 : 1 ≤ l) (h3 : 1 ≤ s) : flash l (s + 1) ≤ flash l s := by
  have hf := flash_lo (l := l) h3
  have hp : 0 ≤ flash l s := by unfold flash; exact Int.ediv_nonneg (by omega) (by omega)
  have : flash l (s + 1) < flash l s + 1 := by
    rw [flash]
    apply Int.ediv_lt_of_lt_mul (by omega)
    have e : (flash l s + 1) * (s + 1) = flash l s * s + flash l s + s + 1 := by
      rw [Int.add_mul, Int.mul_add]; omega
    omega
  omega
end Go.Proofs.Ytiapkghigbkpkaa
