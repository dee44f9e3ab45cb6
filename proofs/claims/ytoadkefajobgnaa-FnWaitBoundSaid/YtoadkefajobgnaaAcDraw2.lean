/-
  The generators of controllers that may be invalid.
-/
import Derived.Test.YtoadkefajobgnaaAcDraw
namespace Go.Proofs.Ytoadkefajobgnaa
open Go.RowKit
set_option linter.unusedVariables false

def anyA (a : Ctl) : Prop := 1 ≤ a.st ∧ a.st ≤ 5 ∧ a.wa.length ≤ 6

set_option maxHeartbeats 3200000 in
theorem anyActor_any (w : World) (rb M : Nat) (hr : Rdr w rb M) (hM : M ≤ 1000) :
    Calls Try.prog 35 #[.pointer (some ⟨rb, 0, none⟩)] w (DrawA anyA w rb (M + 402)) := by
  obtain ⟨i0, hi0, hz0, hz1, hz2⟩ := info_parts info_Bool
  have hlt := hr.lt
  have hbz := Blk.new w 27 acZ
  have G := only_alloc (only_refl w (some rb)) (.cells acZ 27)
  replace hr := hr.alloc (.cells acZ 27)
  go_enter Try.func35, Try.ntmps35
  go_wp2_with fail
  refine (randomActor_any _ rb M hr hM).mono ?_
  rintro e w1 ⟨a, A, c, rfl, hga, h1, hr1, hg1⟩
  have hst := hga.st
  have hwa := hga.wa
  replace hbz := hbz.grown hg1 (by simp; omega)
  replace G := only_trans G hg1
  have hzl := hbz.lt
  have hnz := own_ne h1 w.heap.size (.inl (by simp))
  replace h1 := h1.mono (show w.heap.size ≤ _ by simp)
  clear hg1 hr hga
  have hng := own_ne h1 w1.heap.size (.inr (Nat.le_refl _))
  go_wp2_with fail
  have hba := Blk.new w1 27 (acC a A c)
  replace hbz := hbz.alloc (.cells (acC a A c) 27)
  replace hr1 := hr1.alloc (.cells (acC a A c) 27)
  replace G := only_alloc G (.cells (acC a A c) 27)
  replace h1 := h1.alloc (.cells (acC a A c) 27)
  have hgl := hba.lt
  refine (pick_any _ rb _ 24 hr1 (by omega)).mono ?_
  rintro e w2 ⟨k, rfl, hk0, hk1, hr2, hg2⟩
  have hrn : ∀ b, blk A = some b → b ≠ rb := own_ne h1 rb (.inl hlt)
  replace hba := hba.grown hg2 (by simp; omega)
  replace hbz := hbz.grown hg2 (by simp; omega)
  replace h1 := h1.grown hg2 (or_rb hrn)
  replace G := only_trans G hg2
  generalize w1.heap.size = ga at *
  have hszG := hba.lt
  have hWG := G.size
  clear hg2 hr1 hk1
  have hff := hba.frozen
  have hef := hbz.frozen
  obtain ⟨f0, f1, f2, f3, f4, f5⟩ := loadT hba
  obtain ⟨e0, e1, e2, e3, e4, e5⟩ := (⟨hbz.cell 0, hbz.cell 1, hbz.cell 2, hbz.cell 3, hbz.cell 4, hbz.cell 5⟩ : _ ∧ _ ∧ _ ∧ _ ∧ _ ∧ _)
  simp at e0 e1 e2 e3 e4 e5
  by_cases hk : k = 0
  · subst hk
    go_wp2_with fail
    refine (one_any _ rb _ _ 2 _ [-1, a.st] (hr2.alloc _) (by omega) (Blk.new _ _ _) (by have := hr2.lt; omega) rfl (by omega) (by omega)).mono ?_
    rintro e w5 ⟨x, rfl, hx, hr5, hg5⟩
    replace hba := (hba.alloc (.cells ([-1, a.st].map (Value.int .i64)).toArray 3)).grown hg5 (by simp; omega)
    replace hbz := (hbz.alloc (.cells ([-1, a.st].map (Value.int .i64)).toArray 3)).grown hg5 (by simp; omega)
    replace h1 := (h1.alloc (.cells ([-1, a.st].map (Value.int .i64)).toArray 3)).grown hg5 (or_rb hrn)
    replace G := only_trans (only_alloc G (.cells ([-1, a.st].map (Value.int .i64)).toArray 3)) hg5
    have hff := hba.frozen
    have hef := hbz.frozen
    obtain ⟨f0, f1, f2, f3, f4, f5⟩ := loadT hba
    obtain ⟨e0, e1, e2, e3, e4, e5⟩ := (⟨hbz.cell 0, hbz.cell 1, hbz.cell 2, hbz.cell 3, hbz.cell 4, hbz.cell 5⟩ : _ ∧ _ ∧ _ ∧ _ ∧ _ ∧ _)
    simp at e0 e1 e2 e3 e4 e5
    have h1' := h1.grown (only_set (w := w5) (g := ga) (k := 1) (.int .i64 x)) (or_rb hng)
    have hr5' := hr5.setCell (p := ⟨ga, 1, none⟩) (by simp; omega) (.int .i64 x)
    have G' := only_own G (only_set (w := w5) (g := ga) (k := 1) (.int .i64 x)) (fun b hb => by simp at hb; omega)
    clear hba hbz hg5 hr2 h1 hr5 G hx
    go_wp2_with fail
    refine bodyPost_ret (v := acV ⟨a.st, x, a.pa, a.qu, a.le, a.wa⟩ A c) (by simp [results, Try.results35, go_sem, e0, e1, e2, e3, e4, e5]) rfl ⟨⟨a.st, x, a.pa, a.qu, a.le, a.wa⟩, A, c, rfl, ⟨hst.1, hst.2, by simp only; omega⟩, own_set6 h1' hnz, (rdr_set6 hr5' (by omega)).mono (by omega), grow_set6 G' (by omega)⟩
  have hk0 : (k == 0) = false := by simpa using hk
  clear hk
  by_cases hk : k = 1
  · subst hk
    go_wp2_with fail
    refine (one_any _ rb _ _ 3 _ [-1, 40, 41] (hr2.alloc _) (by omega) (Blk.new _ _ _) (by have := hr2.lt; omega) rfl (by omega) (by omega)).mono ?_
    rintro e w5 ⟨x, rfl, hx, hr5, hg5⟩
    replace hba := (hba.alloc (.cells ([-1, 40, 41].map (Value.int .i64)).toArray 3)).grown hg5 (by simp; omega)
    replace hbz := (hbz.alloc (.cells ([-1, 40, 41].map (Value.int .i64)).toArray 3)).grown hg5 (by simp; omega)
    replace h1 := (h1.alloc (.cells ([-1, 40, 41].map (Value.int .i64)).toArray 3)).grown hg5 (or_rb hrn)
    replace G := only_trans (only_alloc G (.cells ([-1, 40, 41].map (Value.int .i64)).toArray 3)) hg5
    have hff := hba.frozen
    have hef := hbz.frozen
    obtain ⟨f0, f1, f2, f3, f4, f5⟩ := loadT hba
    obtain ⟨e0, e1, e2, e3, e4, e5⟩ := (⟨hbz.cell 0, hbz.cell 1, hbz.cell 2, hbz.cell 3, hbz.cell 4, hbz.cell 5⟩ : _ ∧ _ ∧ _ ∧ _ ∧ _ ∧ _)
    simp at e0 e1 e2 e3 e4 e5
    have h1' := h1.grown (only_set (w := w5) (g := ga) (k := 2) (.int .i64 x)) (or_rb hng)
    have hr5' := hr5.setCell (p := ⟨ga, 2, none⟩) (by simp; omega) (.int .i64 x)
    have G' := only_own G (only_set (w := w5) (g := ga) (k := 2) (.int .i64 x)) (fun b hb => by simp at hb; omega)
    clear hba hbz hg5 hr2 h1 hr5 G hx
    go_wp2_with fail
    refine bodyPost_ret (v := acV ⟨a.st, a.now, x, a.qu, a.le, a.wa⟩ A c) (by simp [results, Try.results35, go_sem, e0, e1, e2, e3, e4, e5]) rfl ⟨⟨a.st, a.now, x, a.qu, a.le, a.wa⟩, A, c, rfl, ⟨hst.1, hst.2, by simp only; omega⟩, own_set6 h1' hnz, (rdr_set6 hr5' (by omega)).mono (by omega), grow_set6 G' (by omega)⟩
  have hk1 : (k == 1) = false := by simpa using hk
  clear hk
  by_cases hk : k = 2
  · subst hk
    go_wp2_with fail
    refine (one_any _ rb _ _ 3 _ [-1, 5, 6] (hr2.alloc _) (by omega) (Blk.new _ _ _) (by have := hr2.lt; omega) rfl (by omega) (by omega)).mono ?_
    rintro e w5 ⟨x, rfl, hx, hr5, hg5⟩
    replace hba := (hba.alloc (.cells ([-1, 5, 6].map (Value.int .i64)).toArray 3)).grown hg5 (by simp; omega)
    replace hbz := (hbz.alloc (.cells ([-1, 5, 6].map (Value.int .i64)).toArray 3)).grown hg5 (by simp; omega)
    replace h1 := (h1.alloc (.cells ([-1, 5, 6].map (Value.int .i64)).toArray 3)).grown hg5 (or_rb hrn)
    replace G := only_trans (only_alloc G (.cells ([-1, 5, 6].map (Value.int .i64)).toArray 3)) hg5
    have hff := hba.frozen
    have hef := hbz.frozen
    obtain ⟨f0, f1, f2, f3, f4, f5⟩ := loadT hba
    obtain ⟨e0, e1, e2, e3, e4, e5⟩ := (⟨hbz.cell 0, hbz.cell 1, hbz.cell 2, hbz.cell 3, hbz.cell 4, hbz.cell 5⟩ : _ ∧ _ ∧ _ ∧ _ ∧ _ ∧ _)
    simp at e0 e1 e2 e3 e4 e5
    have h1' := h1.grown (only_set (w := w5) (g := ga) (k := 4) (.int .i64 x)) (or_rb hng)
    have hr5' := hr5.setCell (p := ⟨ga, 4, none⟩) (by simp; omega) (.int .i64 x)
    have G' := only_own G (only_set (w := w5) (g := ga) (k := 4) (.int .i64 x)) (fun b hb => by simp at hb; omega)
    clear hba hbz hg5 hr2 h1 hr5 G hx
    go_wp2_with fail
    refine bodyPost_ret (v := acV ⟨a.st, a.now, a.pa, a.qu, x, a.wa⟩ A c) (by simp [results, Try.results35, go_sem, e0, e1, e2, e3, e4, e5]) rfl ⟨⟨a.st, a.now, a.pa, a.qu, x, a.wa⟩, A, c, rfl, ⟨hst.1, hst.2, by simp only; omega⟩, own_set6 h1' hnz, (rdr_set6 hr5' (by omega)).mono (by omega), grow_set6 G' (by omega)⟩
  have hk2 : (k == 2) = false := by simpa using hk
  clear hk
  by_cases hk : k = 3
  · subst hk
    have h1l := h1.lt
    go_wp2_with (at_builtin; go_must (refine wpList_pushO rfl (.tmp 31) (.tmp 32) 22 rfl i0 _ 1 Try.underlying22 hi0 hz0 hz1 hz2 rfl rfl (h1.alloc _) w2.heap.size true rfl (cell_new _ _ _) rfl (by omega) (by omega) (by simp; omega) ?_); intro A3 c3 w5 h3 hg3 hb3; have hba5 := (hba.alloc (.cells #[.bool true] 4)).grown hg3 (fun e => hng _ e.symm rfl); have hbz5 := (hbz.alloc (.cells #[.bool true] 4)).grown hg3 (fun e => hnz _ e.symm rfl); have hr5 := (hr2.alloc (.cells #[.bool true] 4)).grown hg3 (fun b hb => by have := (h1l b hb).1; omega); have G5 := only_own (only_alloc G (.cells #[.bool true] 4)) hg3 (fun b hb => (h1l b hb).1); clear f0 f1 f2 f3 f4 f5 e0 e1 e2 e3 e4 e5 hff hef; have hff := hba5.frozen; have hef := hbz5.frozen; obtain ⟨f0, f1, f2, f3, f4, f5⟩ := loadT hba5; obtain ⟨e0, e1, e2, e3, e4, e5⟩ := (⟨hbz5.cell 0, hbz5.cell 1, hbz5.cell 2, hbz5.cell 3, hbz5.cell 4, hbz5.cell 5⟩ : _ ∧ _ ∧ _ ∧ _ ∧ _ ∧ _); simp at e0 e1 e2 e3 e4 e5)
    have hn3 : ∀ g, g < w2.heap.size → (∀ b, blk A = some b → b ≠ g) → ∀ b, blk A3 = some b → b ≠ g := fun g hg hn b hb => by
      rcases hb3 with h | h
      · exact hn b (by rw [← h]; exact hb)
      · have := h b hb
        simp at this
        omega
    have hn3z := hn3 w.heap.size (by omega) hnz
    have hn3g := hn3 ga hszG hng
    have h3' := h3.grown (only_set (w := w5) (g := ga) (k := 5) (.slice A3 (a.wa.length + 1) c3)) (or_rb hn3g)
    have hr5' := hr5.setCell (p := ⟨ga, 5, none⟩) (by simp; omega) (.slice A3 (a.wa.length + 1) c3)
    have G' := only_own G5 (only_set (w := w5) (g := ga) (k := 5) (.slice A3 (a.wa.length + 1) c3)) (fun b hb => by simp at hb; omega)
    refine bodyPost_ret (v := .agg #[.int .i64 a.st, .int .i64 a.now, .int .i64 a.pa, .int .i64 a.qu, .int .i64 a.le, .slice A3 (a.wa.length + 1) c3]) (by simp [results, Try.results35, go_sem, e0, e1, e2, e3, e4, e5]) rfl ⟨⟨a.st, a.now, a.pa, a.qu, a.le, a.wa ++ [true]⟩, A3, c3, by simp [acV], ⟨hst.1, hst.2, by simp; omega⟩, own_set6 h3' hn3z, (rdr_set6 hr5' (by omega)).mono (by omega), grow_set6 G' (by omega)⟩
  have hk3 : (k == 3) = false := by simpa using hk
  clear hk
  go_wp2_with fail
  refine bodyPost_ret (v := acV a A c) (by simp [results, Try.results35, go_sem, e0, e1, e2, e3, e4, e5]) rfl ⟨a, A, c, rfl, ⟨hst.1, hst.2, by omega⟩, own_set6 h1 hnz, (rdr_set6 hr2 hlt).mono (by omega), grow_set6 G (Nat.le_refl _)⟩

/-- The generators of one controller. -/
def DrawA1 (w : World) (e : Ending) (w' : World) : Prop :=
  ∃ a A c, e = .returned (acV a A c) ∧ anyA a ∧ OwnO fB w' w.heap.size 4 A c a.wa ∧ Below w.heap.size w w'

theorem drawValidActor_any (w : World) (A : Option Addr) (len cap : Nat) (h : Bytes w A len) (hc : len ≤ cap) :
    Calls Try.prog 20 #[.slice A len cap] w (DrawA1 w) := by
  have h' := h.alloc (.cells acZ 27)
  go_enter Try.func20, Try.ntmps20
  go_wp2_with fail
  refine (newReader_any _ A len cap h' hc).mono ?_
  rintro e w1 ⟨rb, rfl, hrb, hr1, hb1⟩
  have hbz := (Blk.new w 27 acZ).below hb1 (by simp)
  have hB := ((Below.refl w.heap.size w).alloc (Nat.le_refl _) (.cells acZ 27)).trans (hb1.mono (by simp))
  have hrb' : w.heap.size + 1 ≤ rb := by simpa using hrb
  have hlt := hr1.lt
  clear hb1 hrb h h'
  go_wp2_with fail
  refine (anyActor_any _ rb 0 hr1 (by omega)).mono ?_
  rintro e w2 ⟨a, A2, c2, rfl, ha, h2, hr2, hg2⟩
  replace hbz := hbz.grown hg2 (by simp; omega)
  replace hB := below_of_only hB hg2 (by omega)
  have hnz := own_ne h2 w.heap.size (.inl (by omega))
  clear hg2 hr1
  obtain ⟨e0, e1, e2, e3, e4, e5⟩ := (⟨hbz.cell 0, hbz.cell 1, hbz.cell 2, hbz.cell 3, hbz.cell 4, hbz.cell 5⟩ : _ ∧ _ ∧ _ ∧ _ ∧ _ ∧ _)
  have hef := hbz.frozen
  simp at e0 e1 e2 e3 e4 e5
  have h2' := h2.mono (show w.heap.size ≤ w1.heap.size by omega)
  clear hbz h2
  go_wp2_with fail
  refine bodyPost_ret (v := acV a A2 c2) (by simp [results, Try.results20, go_sem, e0, e1, e2, e3, e4, e5]) rfl ⟨a, A2, c2, rfl, ha, own_set6 h2' hnz, below_set6 hB (Nat.le_refl _)⟩

theorem drawWaitBound_any (w : World) (A : Option Addr) (len cap : Nat) (h : Bytes w A len) (hc : len ≤ cap) :
    Calls Try.prog 22 #[.slice A len cap] w (DrawA1 w) := by
  have h' := h.alloc (.cells acZ 27)
  go_enter Try.func22, Try.ntmps22
  go_wp2_with fail
  refine (newReader_any _ A len cap h' hc).mono ?_
  rintro e w1 ⟨rb, rfl, hrb, hr1, hb1⟩
  have hbz := (Blk.new w 27 acZ).below hb1 (by simp)
  have hB := ((Below.refl w.heap.size w).alloc (Nat.le_refl _) (.cells acZ 27)).trans (hb1.mono (by simp))
  have hrb' : w.heap.size + 1 ≤ rb := by simpa using hrb
  have hlt := hr1.lt
  clear hb1 hrb h h'
  go_wp2_with fail
  refine (anyActor_any _ rb 0 hr1 (by omega)).mono ?_
  rintro e w2 ⟨a, A2, c2, rfl, ha, h2, hr2, hg2⟩
  replace hbz := hbz.grown hg2 (by simp; omega)
  replace hB := below_of_only hB hg2 (by omega)
  have hnz := own_ne h2 w.heap.size (.inl (by omega))
  clear hg2 hr1
  obtain ⟨e0, e1, e2, e3, e4, e5⟩ := (⟨hbz.cell 0, hbz.cell 1, hbz.cell 2, hbz.cell 3, hbz.cell 4, hbz.cell 5⟩ : _ ∧ _ ∧ _ ∧ _ ∧ _ ∧ _)
  have hef := hbz.frozen
  simp at e0 e1 e2 e3 e4 e5
  have h2' := h2.mono (show w.heap.size ≤ w1.heap.size by omega)
  clear hbz h2
  go_wp2_with fail
  refine bodyPost_ret (v := acV a A2 c2) (by simp [results, Try.results22, go_sem, e0, e1, e2, e3, e4, e5]) rfl ⟨a, A2, c2, rfl, ha, own_set6 h2' hnz, below_set6 hB (Nat.le_refl _)⟩

/-- The generator of a controller and cars. -/
def DrawA2 (w : World) (e : Ending) (w' : World) : Prop :=
  ∃ a A c C d cars, e = .returned (.tuple #[acV a A c, .slice C cars.length d]) ∧ anyA a ∧ cars.length ≤ 6 ∧ RdL fB w' A a.wa ∧ RdL fB w' C cars ∧ Below w.heap.size w w'

set_option maxHeartbeats 3200000 in
theorem drawSt_any (w : World) (A : Option Addr) (len cap : Nat) (h : Bytes w A len) (hc : len ≤ cap) :
    Calls Try.prog 24 #[.slice A len cap] w (DrawA2 w) := by
  have h' := h.alloc (.cells acZ 27)
  go_enter Try.func24, Try.ntmps24
  go_wp2_with fail
  refine (newReader_any _ A len cap h' hc).mono ?_
  rintro e w1 ⟨rb, rfl, hrb, hr1, hb1⟩
  have hbz := (Blk.new w 27 acZ).below hb1 (by simp)
  have hB := ((Below.refl w.heap.size w).alloc (Nat.le_refl _) (.cells acZ 27)).trans (hb1.mono (by simp))
  have hrb' : w.heap.size + 1 ≤ rb := by simpa using hrb
  have hlt := hr1.lt
  clear hb1 hrb h h'
  go_wp2_with fail
  refine (anyActor_any _ rb 0 hr1 (by omega)).mono ?_
  rintro e w2 ⟨a, A2, c2, rfl, ha, h2, hr2, hg2⟩
  replace hbz := hbz.grown hg2 (by simp; omega)
  replace hB := below_of_only hB hg2 (by omega)
  have hzl := hbz.lt
  have hlt2 := hr2.lt
  have hnz := own_ne h2 w.heap.size (.inl (by omega))
  have hnr := own_ne h2 rb (.inl hlt)
  have hng := own_ne h2 w2.heap.size (.inr (Nat.le_refl _))
  have hw2 := hB.size
  obtain ⟨ha1, ha2, ha3⟩ := ha
  clear hg2 hr1
  go_wp2_with fail
  have hba := Blk.new w2 27 (acC a A2 c2)
  replace hbz := hbz.alloc (.cells (acC a A2 c2) 27)
  replace hr2 := hr2.alloc (.cells (acC a A2 c2) 27)
  replace hB := hB.alloc hw2 (.cells (acC a A2 c2) 27)
  replace h2 := h2.alloc (.cells (acC a A2 c2) 27)
  generalize w2.alloc (.cells (acC a A2 c2) 27) = w2b at *
  obtain ⟨S, hS⟩ : ∃ S : World → Prop, S = fun x => Blk x w2.heap.size 27 (acC a A2 c2) := ⟨_, rfl⟩
  have hS1 : ∀ x, S x → Blk x w2.heap.size 27 (acC a A2 c2) := fun x h => by rw [hS] at h; exact h
  have hS2 : ∀ x, Blk x w2.heap.size 27 (acC a A2 c2) → S x := fun x h => by rw [hS]; exact h
  have k0 : ∀ y : Held S, y.x.cell? ⟨w2.heap.size, 0, none⟩ = some (.int .i64 a.st) := fun y => (hS1 y.x y.h).cell 0
  have k1 : ∀ y : Held S, y.x.cell? ⟨w2.heap.size, 1, none⟩ = some (.int .i64 a.now) := fun y => (hS1 y.x y.h).cell 1
  have k2 : ∀ y : Held S, y.x.cell? ⟨w2.heap.size, 2, none⟩ = some (.int .i64 a.pa) := fun y => (hS1 y.x y.h).cell 2
  have k3 : ∀ y : Held S, y.x.cell? ⟨w2.heap.size, 3, none⟩ = some (.int .i64 a.qu) := fun y => (hS1 y.x y.h).cell 3
  have k4 : ∀ y : Held S, y.x.cell? ⟨w2.heap.size, 4, none⟩ = some (.int .i64 a.le) := fun y => (hS1 y.x y.h).cell 4
  have k5 : ∀ y : Held S, y.x.cell? ⟨w2.heap.size, 5, none⟩ = some (.slice A2 a.wa.length c2) := fun y => (hS1 y.x y.h).cell 5
  have HS2 := Lib.hid hS2
  clear hS hS1 hS2
  have hgl := hba.lt
  refine wp_region_mix S [(0, 0), (0, 1), (0, 2), (0, 3), (0, 4), (1, 5), (1, 6), (0, 7), (1, 8), (1, 9), (1, 10)] [] (by kernel_rfl) (by kernel_rfl) (HS2.out _ hba.drew) ?_
  intro hne0
  simp only [mixOps, List.filterMap_cons, List.filterMap_nil, List.getElem?_toArray, List.getElem?_cons_zero, List.getElem?_cons_succ, Option.map_some]
  replace hba := hba.drew
  replace hbz := hbz.drew
  replace hr2 := hr2.drew
  replace hB := hB.drew
  replace h2 := h2.drew
  generalize w2b.drew = w3 at *
  repeat (refine mix_early (fun K hK => ?_); go_simp; refine hK _ ?_; clear hK K)
  refine mix_late rfl (fun K hK => ?_)
  go_wp2_with fail
  refine ⟨HS2.out _ (hba.alloc _), ?_⟩
  refine mix_late rfl (fun K hK => ?_)
  go_wp2_with fail
  refine (one_any _ rb _ _ 8 _ [0, 0, 0, 0, 0, 0, 0, 1] (hr2.alloc _) (by omega) (Blk.new _ _ _) (by have := hr2.lt; omega) rfl (by omega) (by omega)).mono ?_
  rintro e w4 ⟨x, rfl, hx, hr4, hg4⟩
  replace hba := (hba.alloc (.cells ([0, 0, 0, 0, 0, 0, 0, 1].map (Value.int .i64)).toArray 3)).grown hg4 (by simp; omega)
  replace hbz := (hbz.alloc (.cells ([0, 0, 0, 0, 0, 0, 0, 1].map (Value.int .i64)).toArray 3)).grown hg4 (by simp; omega)
  replace h2 := (h2.alloc (.cells ([0, 0, 0, 0, 0, 0, 0, 1].map (Value.int .i64)).toArray 3)).grown hg4 (or_rb hnr)
  replace hB := below_of_only (hB.alloc hB.size (.cells ([0, 0, 0, 0, 0, 0, 0, 1].map (Value.int .i64)).toArray 3)) hg4 (by omega)
  have hx : 0 ≤ x ∧ x ≤ 1 := by simp at hx; omega
  obtain ⟨hx0, hx1⟩ := hx
  have hxw : IntKind.i64.wrap (a.st + x) = a.st + x := by simp [IntKind.wrap, IntKind.bits, IntKind.signed]; omega
  clear hg4 hr2
  go_wp2_with fail
  refine ⟨HS2.out _ hba, ?_⟩
  refine mix_early (fun K hK => ?_); go_simp; refine hK _ ?_; clear hK K
  refine mix_late rfl (fun K hK => ?_)
  go_wp2_with fail
  refine (randomBools_any _ rb _ (a.st + x) hr4 (by omega) (by omega)).mono ?_
  rintro e w5 ⟨ys, C, d, rfl, hy, hyl, hr5, hg5⟩
  have hw4 := hbz.lt
  have hsz4 := hB.size
  have hny := own_ne hy w.heap.size (.inl hw4)
  replace hba := hba.grown hg5 (by simp; omega)
  replace hbz := hbz.grown hg5 (by simp; omega)
  replace h2 := h2.grown hg5 (or_rb hnr)
  replace hB := below_of_only hB hg5 (by omega)
  have hyl6 : ys.length ≤ 6 := by omega
  clear hg5 hr4 hyl hxw
  go_wp2_with fail
  refine ⟨HS2.out _ hba, ?_⟩
  obtain ⟨e0, e1, e2, e3, e4, e5⟩ := (⟨hbz.cell 0, hbz.cell 1, hbz.cell 2, hbz.cell 3, hbz.cell 4, hbz.cell 5⟩ : _ ∧ _ ∧ _ ∧ _ ∧ _ ∧ _)
  have hef := hbz.frozen
  simp at e0 e1 e2 e3 e4 e5
  refine mix_late rfl (fun K hK => ?_)
  go_wp2_with fail
  refine ⟨HS2.out _ (hba.grown (only_set6 w5 w.heap.size (.int .i64 a.st) (.int .i64 a.now) (.int .i64 a.pa) (.int .i64 a.qu) (.int .i64 a.le) (.slice A2 a.wa.length c2)) (by simp; omega)), ?_⟩
  refine mix_late rfl (fun K hK => ?_)
  go_wp2_with fail
  refine ⟨HS2.out _ (hba.grown (only_set6 w5 w.heap.size (.int .i64 a.st) (.int .i64 a.now) (.int .i64 a.pa) (.int .i64 a.qu) (.int .i64 a.le) (.slice A2 a.wa.length c2)) (by simp; omega)), ?_⟩
  refine mix_nil ?_
  simp only [tailT, List.filterMap_nil]
  refine wpLateC_nil (NoPanic.normal ?_)
  go_wp2_with fail
  refine bodyPost_ret (v := .tuple #[acV a A2 c2, .slice C ys.length d]) (by simp [results, Try.results24, go_sem, e0, e1, e2, e3, e4, e5]) rfl ⟨a, A2, c2, C, d, ys, rfl, ⟨ha1, ha2, ha3⟩, hyl6, ?_, ?_, below_set6 hB (Nat.le_refl _)⟩
  · exact (own_set6 h2 hnz).rd
  · exact (own_set6 hy hny).rd
end Go.Proofs.Ytoadkefajobgnaa
