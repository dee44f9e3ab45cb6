/-
  The generators of controllers that may be invalid.
-/
import Derived.Test.YtkppjngpllmpfaaAcDraw
namespace Go.Proofs.Ytkppjngpllmpfaa
open Go.RowKit
set_option linter.unusedVariables false

def anyA (a : Ctl) : Prop := 1 ≤ a.st ∧ a.st ≤ 5 ∧ a.wa.length ≤ 6

set_option maxHeartbeats 3200000 in
theorem anyActor_any (w : World) (rb M : Nat) (hr : Rdr w rb M) (hM : M ≤ 1000) :
    Calls Try.prog 24 #[.pointer (some ⟨rb, 0, none⟩)] w (DrawA anyA w rb (M + 402)) := by
  obtain ⟨i0, hi0, hz0, hz1, hz2⟩ := info_parts info_Bool
  have hlt := hr.lt
  have hbz := Blk.new w 25 acZ
  have G := only_alloc (only_refl w (some rb)) (.cells acZ 25)
  replace hr := hr.alloc (.cells acZ 25)
  go_enter Try.func24, Try.ntmps24
  go_wp2_with fail
  refine (randomActor_any _ rb M hr hM).mono ?_
  rintro e w1 ⟨a, A, c, rfl, hga, h1, hr1, hg1⟩
  have hst := hga.st
  have hwa := hga.wa
  replace hbz := hbz.grown hg1 (by simp; omega)
  replace G := only_trans G hg1
  have hzl := hbz.lt
  have hnz := own_ne h1 w.heap.size (.inl (by simp))
  replace h1 := h1.mono (show w.heap.size ≤ _ by simp)
  clear hg1 hr hga
  have hng := own_ne h1 w1.heap.size (.inr (Nat.le_refl _))
  go_wp2_with fail
  have hba := Blk.new w1 25 (acC a A c)
  replace hbz := hbz.alloc (.cells (acC a A c) 25)
  replace hr1 := hr1.alloc (.cells (acC a A c) 25)
  replace G := only_alloc G (.cells (acC a A c) 25)
  replace h1 := h1.alloc (.cells (acC a A c) 25)
  have hgl := hba.lt
  refine (pick_any _ rb _ 24 hr1 (by omega)).mono ?_
  rintro e w2 ⟨k, rfl, hk0, hk1, hr2, hg2⟩
  have hrn : ∀ b, blk A = some b → b ≠ rb := own_ne h1 rb (.inl hlt)
  replace hba := hba.grown hg2 (by simp; omega)
  replace hbz := hbz.grown hg2 (by simp; omega)
  replace h1 := h1.grown hg2 (or_rb hrn)
  replace G := only_trans G hg2
  generalize w1.heap.size = ga at *
  have hszG := hba.lt
  have hWG := G.size
  clear hg2 hr1 hk1
  have hff := hba.frozen
  have hef := hbz.frozen
  obtain ⟨f0, f1, f2, f3, f4, f5⟩ := loadT hba
  obtain ⟨e0, e1, e2, e3, e4, e5⟩ := (⟨hbz.cell 0, hbz.cell 1, hbz.cell 2, hbz.cell 3, hbz.cell 4, hbz.cell 5⟩ : _ ∧ _ ∧ _ ∧ _ ∧ _ ∧ _)
  simp at e0 e1 e2 e3 e4 e5
  by_cases hk : k = 0
  · subst hk
    go_wp2_with fail
    refine (one_any _ rb _ _ 2 _ [-1, a.st] (hr2.alloc _) (by omega) (Blk.new _ _ _) (by have := hr2.lt; omega) rfl (by omega) (by omega)).mono ?_
    rintro e w5 ⟨x, rfl, hx, hr5, hg5⟩
    replace hba := (hba.alloc (.cells ([-1, a.st].map (Value.int .i64)).toArray 3)).grown hg5 (by simp; omega)
    replace hbz := (hbz.alloc (.cells ([-1, a.st].map (Value.int .i64)).toArray 3)).grown hg5 (by simp; omega)
    replace h1 := (h1.alloc (.cells ([-1, a.st].map (Value.int .i64)).toArray 3)).grown hg5 (or_rb hrn)
    replace G := only_trans (only_alloc G (.cells ([-1, a.st].map (Value.int .i64)).toArray 3)) hg5
    have hff := hba.frozen
    have hef := hbz.frozen
    obtain ⟨f0, f1, f2, f3, f4, f5⟩ := loadT hba
    obtain ⟨e0, e1, e2, e3, e4, e5⟩ := (⟨hbz.cell 0, hbz.cell 1, hbz.cell 2, hbz.cell 3, hbz.cell 4, hbz.cell 5⟩ : _ ∧ _ ∧ _ ∧ _ ∧ _ ∧ _)
    simp at e0 e1 e2 e3 e4 e5
    have h1' := h1.grown (only_set (w := w5) (g := ga) (k := 1) (.int .i64 x)) (or_rb hng)
    have hr5' := hr5.setCell (p := ⟨ga, 1, none⟩) (by simp; omega) (.int .i64 x)
    have G' := only_own G (only_set (w := w5) (g := ga) (k := 1) (.int .i64 x)) (fun b hb => by simp at hb; omega)
    clear hba hbz hg5 hr2 h1 hr5 G hx
    go_wp2_with fail
    refine bodyPost_ret (v := acV ⟨a.st, x, a.pa, a.qu, a.le, a.wa⟩ A c) (by simp [results, Try.results24, go_sem, e0, e1, e2, e3, e4, e5]) rfl ⟨⟨a.st, x, a.pa, a.qu, a.le, a.wa⟩, A, c, rfl, ⟨hst.1, hst.2, by simp only; omega⟩, own_set6 h1' hnz, (rdr_set6 hr5' (by omega)).mono (by omega), grow_set6 G' (by omega)⟩
  have hk0 : (k == 0) = false := by simpa using hk
  clear hk
  by_cases hk : k = 1
  · subst hk
    go_wp2_with fail
    refine (one_any _ rb _ _ 3 _ [-1, 40, 41] (hr2.alloc _) (by omega) (Blk.new _ _ _) (by have := hr2.lt; omega) rfl (by omega) (by omega)).mono ?_
    rintro e w5 ⟨x, rfl, hx, hr5, hg5⟩
    replace hba := (hba.alloc (.cells ([-1, 40, 41].map (Value.int .i64)).toArray 3)).grown hg5 (by simp; omega)
    replace hbz := (hbz.alloc (.cells ([-1, 40, 41].map (Value.int .i64)).toArray 3)).grown hg5 (by simp; omega)
    replace h1 := (h1.alloc (.cells ([-1, 40, 41].map (Value.int .i64)).toArray 3)).grown hg5 (or_rb hrn)
    replace G := only_trans (only_alloc G (.cells ([-1, 40, 41].map (Value.int .i64)).toArray 3)) hg5
    have hff := hba.frozen
    have hef := hbz.frozen
    obtain ⟨f0, f1, f2, f3, f4, f5⟩ := loadT hba
    obtain ⟨e0, e1, e2, e3, e4, e5⟩ := (⟨hbz.cell 0, hbz.cell 1, hbz.cell 2, hbz.cell 3, hbz.cell 4, hbz.cell 5⟩ : _ ∧ _ ∧ _ ∧ _ ∧ _ ∧ _)
    simp at e0 e1 e2 e3 e4 e5
    have h1' := h1.grown (only_set (w := w5) (g := ga) (k := 2) (.int .i64 x)) (or_rb hng)
    have hr5' := hr5.setCell (p := ⟨ga, 2, none⟩) (by simp; omega) (.int .i64 x)
    have G' := only_own G (only_set (w := w5) (g := ga) (k := 2) (.int .i64 x)) (fun b hb => by simp at hb; omega)
    clear hba hbz hg5 hr2 h1 hr5 G hx
    go_wp2_with fail
    refine bodyPost_ret (v := acV ⟨a.st, a.now, x, a.qu, a.le, a.wa⟩ A c) (by simp [results, Try.results24, go_sem, e0, e1, e2, e3, e4, e5]) rfl ⟨⟨a.st, a.now, x, a.qu, a.le, a.wa⟩, A, c, rfl, ⟨hst.1, hst.2, by simp only; omega⟩, own_set6 h1' hnz, (rdr_set6 hr5' (by omega)).mono (by omega), grow_set6 G' (by omega)⟩
  have hk1 : (k == 1) = false := by simpa using hk
  clear hk
  by_cases hk : k = 2
  · subst hk
    go_wp2_with fail
    refine (one_any _ rb _ _ 3 _ [-1, 5, 6] (hr2.alloc _) (by omega) (Blk.new _ _ _) (by have := hr2.lt; omega) rfl (by omega) (by omega)).mono ?_
    rintro e w5 ⟨x, rfl, hx, hr5, hg5⟩
    replace hba := (hba.alloc (.cells ([-1, 5, 6].map (Value.int .i64)).toArray 3)).grown hg5 (by simp; omega)
    replace hbz := (hbz.alloc (.cells ([-1, 5, 6].map (Value.int .i64)).toArray 3)).grown hg5 (by simp; omega)
    replace h1 := (h1.alloc (.cells ([-1, 5, 6].map (Value.int .i64)).toArray 3)).grown hg5 (or_rb hrn)
    replace G := only_trans (only_alloc G (.cells ([-1, 5, 6].map (Value.int .i64)).toArray 3)) hg5
    have hff := hba.frozen
    have hef := hbz.frozen
    obtain ⟨f0, f1, f2, f3, f4, f5⟩ := loadT hba
    obtain ⟨e0, e1, e2, e3, e4, e5⟩ := (⟨hbz.cell 0, hbz.cell 1, hbz.cell 2, hbz.cell 3, hbz.cell 4, hbz.cell 5⟩ : _ ∧ _ ∧ _ ∧ _ ∧ _ ∧ _)
    simp at e0 e1 e2 e3 e4 e5
    have h1' := h1.grown (only_set (w := w5) (g := ga) (k := 4) (.int .i64 x)) (or_rb hng)
    have hr5' := hr5.setCell (p := ⟨ga, 4, none⟩) (by simp; omega) (.int .i64 x)
    have G' := only_own G (only_set (w := w5) (g := ga) (k := 4) (.int .i64 x)) (fun b hb => by simp at hb; omega)
    clear hba hbz hg5 hr2 h1 hr5 G hx
    go_wp2_with fail
    refine bodyPost_ret (v := acV ⟨a.st, a.now, a.pa, a.qu, x, a.wa⟩ A c) (by simp [results, Try.results24, go_sem, e0, e1, e2, e3, e4, e5]) rfl ⟨⟨a.st, a.now, a.pa, a.qu, x, a.wa⟩, A, c, rfl, ⟨hst.1, hst.2, by simp only; omega⟩, own_set6 h1' hnz, (rdr_set6 hr5' (by omega)).mono (by omega), grow_set6 G' (by omega)⟩
  have hk2 : (k == 2) = false := by simpa using hk
  clear hk
  by_cases hk : k = 3
  · subst hk
    have h1l := h1.lt
    go_wp2_with (at_builtin; go_must (refine wpList_pushO rfl (.tmp 31) (.tmp 32) 23 rfl i0 _ 1 Try.underlying23 hi0 hz0 hz1 hz2 rfl rfl (h1.alloc _) w2.heap.size true rfl (cell_new _ _ _) rfl (by omega) (by omega) (by simp; omega) ?_); intro A3 c3 w5 h3 hg3 hb3; have hba5 := (hba.alloc (.cells #[.bool true] 4)).grown hg3 (fun e => hng _ e.symm rfl); have hbz5 := (hbz.alloc (.cells #[.bool true] 4)).grown hg3 (fun e => hnz _ e.symm rfl); have hr5 := (hr2.alloc (.cells #[.bool true] 4)).grown hg3 (fun b hb => by have := (h1l b hb).1; omega); have G5 := only_own (only_alloc G (.cells #[.bool true] 4)) hg3 (fun b hb => (h1l b hb).1); clear f0 f1 f2 f3 f4 f5 e0 e1 e2 e3 e4 e5 hff hef; have hff := hba5.frozen; have hef := hbz5.frozen; obtain ⟨f0, f1, f2, f3, f4, f5⟩ := loadT hba5; obtain ⟨e0, e1, e2, e3, e4, e5⟩ := (⟨hbz5.cell 0, hbz5.cell 1, hbz5.cell 2, hbz5.cell 3, hbz5.cell 4, hbz5.cell 5⟩ : _ ∧ _ ∧ _ ∧ _ ∧ _ ∧ _); simp at e0 e1 e2 e3 e4 e5)
    have hn3 : ∀ g, g < w2.heap.size → (∀ b, blk A = some b → b ≠ g) → ∀ b, blk A3 = some b → b ≠ g := fun g hg hn b hb => by
      rcases hb3 with h | h
      · exact hn b (by rw [← h]; exact hb)
      · have := h b hb
        simp at this
        omega
    have hn3z := hn3 w.heap.size (by omega) hnz
    have hn3g := hn3 ga hszG hng
    have h3' := h3.grown (only_set (w := w5) (g := ga) (k := 5) (.slice A3 (a.wa.length + 1) c3)) (or_rb hn3g)
    have hr5' := hr5.setCell (p := ⟨ga, 5, none⟩) (by simp; omega) (.slice A3 (a.wa.length + 1) c3)
    have G' := only_own G5 (only_set (w := w5) (g := ga) (k := 5) (.slice A3 (a.wa.length + 1) c3)) (fun b hb => by simp at hb; omega)
    refine bodyPost_ret (v := .agg #[.int .i64 a.st, .int .i64 a.now, .int .i64 a.pa, .int .i64 a.qu, .int .i64 a.le, .slice A3 (a.wa.length + 1) c3]) (by simp [results, Try.results24, go_sem, e0, e1, e2, e3, e4, e5]) rfl ⟨⟨a.st, a.now, a.pa, a.qu, a.le, a.wa ++ [true]⟩, A3, c3, by simp [acV], ⟨hst.1, hst.2, by simp; omega⟩, own_set6 h3' hn3z, (rdr_set6 hr5' (by omega)).mono (by omega), grow_set6 G' (by omega)⟩
  have hk3 : (k == 3) = false := by simpa using hk
  clear hk
  go_wp2_with fail
  refine bodyPost_ret (v := acV a A c) (by simp [results, Try.results24, go_sem, e0, e1, e2, e3, e4, e5]) rfl ⟨a, A, c, rfl, ⟨hst.1, hst.2, by omega⟩, own_set6 h1 hnz, (rdr_set6 hr2 hlt).mono (by omega), grow_set6 G (Nat.le_refl _)⟩

/-- The generators of one controller. -/
def DrawA1 (w : World) (e : Ending) (w' : World) : Prop :=
  ∃ a A c, e = .returned (acV a A c) ∧ anyA a ∧ OwnO fB w' w.heap.size 4 A c a.wa ∧ Below w.heap.size w w'



/-- The generator of a controller and cars. -/
def DrawA2 (w : World) (e : Ending) (w' : World) : Prop :=
  ∃ a A c C d cars, e = .returned (.tuple #[acV a A c, .slice C cars.length d]) ∧ anyA a ∧ cars.length ≤ 6 ∧ RdL fB w' A a.wa ∧ RdL fB w' C cars ∧ Below w.heap.size w w'

end Go.Proofs.Ytkppjngpllmpfaa
