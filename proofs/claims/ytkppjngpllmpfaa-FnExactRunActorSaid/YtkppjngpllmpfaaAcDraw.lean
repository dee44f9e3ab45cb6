/-
  The generators of controllers.
-/
import Derived.Test.YtkppjngpllmpfaaAcStepS
import Derived.Test.YtkppjngpllmpfaaDrList
import Derived.Test.YtkppjngpllmpfaaRegM
namespace Go.Proofs.Ytkppjngpllmpfaa
open Go.RowKit
set_option linter.unusedVariables false

section
variable {w : World} {g rb M : Nat} {v0 v1 v2 v3 v4 v5 : Value}
theorem rdr_set6 (h : Rdr w rb M) (hg : rb < g) : Rdr (set6 w g v0 v1 v2 v3 v4 v5) rb M :=
  (((((h.setCell hg _).setCell hg _).setCell hg _).setCell hg _).setCell hg _).setCell hg _
theorem grow_set6 {w0 : World} (h : w0.grownBy w (some rb)) (hg : w0.heap.size ≤ g) : w0.grownBy (set6 w g v0 v1 v2 v3 v4 v5) (some rb) :=
  only_own h (only_set6 _ _ _ _ _ _ _ _) (fun b hb => by injection hb; omega)
end
/-- A generated controller. -/
def DrawA (Pr : Ctl → Prop) (w : World) (rb N : Nat) (e : Ending) (w' : World) : Prop :=
  ∃ a A c, e = .returned (acV a A c) ∧ Pr a ∧ OwnO fB w' w.heap.size 4 A c a.wa ∧ Rdr w' rb N ∧ w.grownBy w' (some rb)

theorem own_ne {α : Type} {f : α → Value} {w : World} {lo : Nat} {e : TypeId} {A : Option Addr} {c : Nat} {xs : List α} (h : OwnO f w lo e A c xs) (g : Nat) (hg : g < lo ∨ w.heap.size ≤ g) : ∀ b, blk A = some b → b ≠ g := fun b hb => by
  have := h.lt b hb
  omega
theorem or_rb {A : Option Addr} {rb : Nat} (h : ∀ b, blk A = some b → b ≠ rb) : blk A = none ∨ blk A ≠ some rb := by
  cases hA : blk A with
  | none => exact .inl rfl
  | some b => exact .inr fun e => h b hA (by injection e)

set_option maxHeartbeats 3200000 in
theorem randomActor_any (w : World) (rb M : Nat) (hr : Rdr w rb M) (hM : M ≤ 1000) :
    Calls Try.prog 36 #[.pointer (some ⟨rb, 0, none⟩)] w (DrawA (fun a => Good a) w rb (M + 400)) := by
  have hlt := hr.lt
  have hbz := Blk.new w 25 acZ
  have G := only_alloc (only_refl w (some rb)) (.cells acZ 25)
  replace hr := hr.alloc (.cells acZ 25)
  go_enter Try.func36, Try.ntmps36
  go_wp2_with fail
  refine (pick_any _ rb M _ hr (by omega)).mono ?_
  rintro e w1 ⟨k1, rfl, hk0, hk1, hr1, hg1⟩
  replace hk1 := hk1 (by omega)
  replace hbz := hbz.grown hg1 (by simp; omega)
  replace G := only_trans G hg1
  have hsz1 := hbz.lt
  clear hg1 hr
  go_wp2_with fail
  have hba := Blk.new w1 25 #[.int .i64 (1 + k1), .int .i64 0, .int .i64 0, .int .i64 0, .int .i64 0, .slice none 0 0]
  replace hbz := hbz.alloc (.cells #[.int .i64 (1 + k1), .int .i64 0, .int .i64 0, .int .i64 0, .int .i64 0, .slice none 0 0] 25)
  replace hr1 := hr1.alloc (.cells #[.int .i64 (1 + k1), .int .i64 0, .int .i64 0, .int .i64 0, .int .i64 0, .slice none 0 0] 25)
  replace G := only_alloc G (.cells #[.int .i64 (1 + k1), .int .i64 0, .int .i64 0, .int .i64 0, .int .i64 0, .slice none 0 0] 25)
  have hgl := hba.lt
  refine (randomBools_any _ rb _ (1 + k1) hr1 (by omega) (by omega)).mono ?_
  rintro e w2 ⟨xs, A2, c2, rfl, h2, hxl, hr2, hg2⟩
  have hne2 := own_ne h2 w1.heap.size (.inl (by simp))
  have hnz2 := own_ne h2 w.heap.size (.inl (by simp; omega))
  replace hba := hba.grown hg2 (by simp; omega)
  replace hbz := hbz.grown hg2 (by simp; omega)
  replace G := only_trans G hg2
  have hwsz : w.heap.size ≤ w1.heap.size := by omega
  clear hg2 hr1
  have hga : Good ⟨1 + k1, 0, 0, 0, 0, xs⟩ := ⟨by simp only; omega, by simp only; omega, by simp, by simp, by simp, by simp only [hxl]; omega⟩
  have hxl5 : xs.length ≤ 4 := by omega
  have Hga := Lib.hid hga
  have f0 := hba.cell 0
  have f1 := hba.cell 1
  have f2 := hba.cell 2
  have f3 := hba.cell 3
  have f4 := hba.cell 4
  have f5 := hba.cell 5
  have hff := hba.frozen
  simp at f0 f1 f2 f3 f4 f5
  have h2' : OwnO fB w2 w.heap.size 4 A2 c2 xs := h2.mono (by simp; omega)
  have hba3 : Blk (w2.setCell ⟨w1.heap.size, 5, none⟩ (.slice A2 xs.length c2)) w1.heap.size 25 (acC ⟨1 + k1, 0, 0, 0, 0, xs⟩ A2 c2) := by
    have := hba.set_ 5 (.slice A2 xs.length c2)
    simpa using this
  have hbz3 := hbz.far (p := ⟨w1.heap.size, 5, none⟩) (by simp; omega) (.slice A2 xs.length c2)
  have h3 := h2'.grown (only_set (w := w2) (g := w1.heap.size) (k := 5) (.slice A2 xs.length c2)) (or_rb hne2)
  have hr3 := hr2.setCell (p := ⟨w1.heap.size, 5, none⟩) (by simp; omega) (.slice A2 xs.length c2)
  have G3 := only_own G (only_set (w := w2) (g := w1.heap.size) (k := 5) (.slice A2 xs.length c2)) (fun b hb => by simp at hb; omega)
  have Hxl := Lib.hid hxl
  clear hba hbz h2 h2' hr2 G hga hxl
  go_wp2_with fail
  refine (pick_any _ rb _ 60 hr3 (by omega)).mono ?_
  rintro e w3 ⟨k3, rfl, hj0, hj1, hr4, hg4⟩
  replace hj1 := hj1 (by omega)
  have hba4 := hba3.grown hg4 (by simp; omega)
  have hbz4 := hbz3.grown hg4 (by simp; omega)
  have h4 := h3.grown hg4 (by
    cases hA : blk A2 with
    | none => exact .inl rfl
    | some b => exact .inr fun e => by have := (h3.lt b hA).1; injection e; omega)
  have G4 := only_trans G3 hg4
  clear hg4 hr3 hba3 hbz3 h3 G3 f0 f1 f2 f3 f4 f5 hff
  generalize w1.heap.size = ga at *
  go_wp2_with fail
  go_loopw [4] (fun n wr => ∃ j : Nat, j ≤ 59 ∧ n = .int .i64 j ∧ (∃ a A c, Blk wr ga 25 (acC a A c) ∧ Good a ∧ OwnO fB wr w.heap.size 4 A c a.wa ∧ (∀ b, blk A = some b → b ≠ ga) ∧ (∀ b, blk A = some b → b ≠ w.heap.size)) ∧ Blk wr w.heap.size 25 acZ ∧ Rdr wr rb (M + 400 - 6 * j) ∧ w.grownBy wr (some rb)) (fun n _ => (intOf n).toNat)
  case atStart => exact ⟨k3.toNat, by omega, by rw [Int.toNat_of_nonneg hj0], ⟨_, A2, c2, hba4, Hga.out, h4, hne2, hnz2⟩, hbz4, hr4.mono (by omega), G4⟩
  case round =>
    clear hba4 hbz4 h4 hr4 G4 hne2 hnz2 Hga
    obtain ⟨j, hj, rfl, ⟨a, A, c, hba, hg, ho, hne, hnz⟩, hbz, hr4, G4⟩ := hrel
    have hgl2 := hba.lt
    by_cases hlt2 : 0 < j
    · have hst := hg.st
      have hwa := hg.wa
      go_wp2_with fail
      obtain ⟨S, hS⟩ : ∃ S : World → Prop, S = fun x => Blk x ga 25 (acC a A c) := ⟨_, rfl⟩
      have hS1 : ∀ x, S x → Blk x ga 25 (acC a A c) := fun x h => by rw [hS] at h; exact h
      have hS2 : ∀ x, Blk x ga 25 (acC a A c) → S x := fun x h => by rw [hS]; exact h
      have k0 : ∀ y : Held S, y.x.cell? ⟨ga, 0, none⟩ = some (.int .i64 a.st) := fun y => (hS1 y.x y.h).cell 0
      have k1 : ∀ y : Held S, y.x.cell? ⟨ga, 1, none⟩ = some (.int .i64 a.now) := fun y => (hS1 y.x y.h).cell 1
      have k2 : ∀ y : Held S, y.x.cell? ⟨ga, 2, none⟩ = some (.int .i64 a.pa) := fun y => (hS1 y.x y.h).cell 2
      have k3 : ∀ y : Held S, y.x.cell? ⟨ga, 3, none⟩ = some (.int .i64 a.qu) := fun y => (hS1 y.x y.h).cell 3
      have k4 : ∀ y : Held S, y.x.cell? ⟨ga, 4, none⟩ = some (.int .i64 a.le) := fun y => (hS1 y.x y.h).cell 4
      have k5 : ∀ y : Held S, y.x.cell? ⟨ga, 5, none⟩ = some (.slice A a.wa.length c) := fun y => (hS1 y.x y.h).cell 5
      have HS2 := Lib.hid hS2
      clear hS hS1 hS2
      refine wp_region_mix S [(0, 0), (0, 1), (0, 2), (0, 3), (1, 4), (1, 5)] [6] (by kernel_rfl) (by kernel_rfl) (HS2.out _ hba.drew) ?_
      intro hne0
      simp only [mixOps, List.filterMap_cons, List.filterMap_nil, List.getElem?_toArray, List.getElem?_cons_zero, List.getElem?_cons_succ, Option.map_some]
      repeat (refine mix_early (fun K hK => ?_); go_simp; refine hK _ ?_; clear hK K)
      clear k0 k1 k2 k3 k4 k5 hne0
      refine mix_late rfl (fun K hK => ?_)
      go_wp2_with fail
      refine (randomBools_any _ rb _ a.st hr4.drew (by omega) (by omega)).mono ?_
      rintro e w5 ⟨ys, C, d, rfl, hy, hyl, hr5, hg5⟩
      replace hba := hba.drew.grown hg5 (by simp; omega)
      replace hbz := hbz.drew.grown hg5 (by simp; omega)
      replace ho := ho.drew.grown hg5 (by
        cases hA : blk A with
        | none => exact .inl rfl
        | some b => exact .inr fun e => by have := (ho.lt b hA).1; injection e; omega)
      replace G4 := only_trans (only_drew G4) hg5
      have hly : a.wa.length = ys.length := by omega
      have hstep := fun w hr hc => sStepA_any a ys A C c d w hg hly hr hc
      have hgs := step_good hg hly
      clear hg5 hr4 hyl hly
      go_wp2_with fail
      refine ⟨HS2.out _ hba, ?_⟩
      refine mix_late rfl (fun K hK => ?_)
      go_wp2_with fail
      refine (hstep _ ho.rd hy.rd).mono ?_
      rintro e w6 ⟨A6, c6, rfl, h6, b6⟩
      have hl5 := hba.lt
      have hz5 := hbz.lt
      have n6a := own_ne h6 ga (.inl hl5)
      have n6z := own_ne h6 w.heap.size (.inl hz5)
      have hw5 : w.heap.size ≤ w5.heap.size := by omega
      have hr6 := hr5.below b6 hr5.lt
      have hba6 := hba.below b6 hl5
      have hbz6 := hbz.below b6 hz5
      have G6 := only_below G4 b6
      have h6' := h6.mono hw5
      clear b6 hba hbz G4 hr5 ho hy h6 hstep
      go_wp2_with fail
      refine ⟨HS2.out _ hba6, ?_⟩
      refine mix_nil ?_
      simp only [tailT, List.filterMap_cons, List.filterMap_nil, List.getElem?_toArray, List.getElem?_cons_zero, List.getElem?_cons_succ]
      have f0 := hba6.cell 0
      have f1 := hba6.cell 1
      have f2 := hba6.cell 2
      have f3 := hba6.cell 3
      have f4 := hba6.cell 4
      have f5 := hba6.cell 5
      have hff := hba6.frozen
      simp at f0 f1 f2 f3 f4 f5
      have hba7 := Lib.hid (hba6.set6 (v0 := .int .i64 (stepF a ys).st) (v1 := .int .i64 (stepF a ys).now) (v2 := .int .i64 (stepF a ys).pa) (v3 := .int .i64 (stepF a ys).qu) (v4 := .int .i64 (stepF a ys).le) (v5 := .slice A6 (stepF a ys).wa.length c6))
      have hbz7 := Lib.hid (hbz6.grown (only_set6 w6 ga (.int .i64 (stepF a ys).st) (.int .i64 (stepF a ys).now) (.int .i64 (stepF a ys).pa) (.int .i64 (stepF a ys).qu) (.int .i64 (stepF a ys).le) (.slice A6 (stepF a ys).wa.length c6)) (by simp; omega))
      have h7 := Lib.hid (own_set6 (g := ga) (v0 := .int .i64 (stepF a ys).st) (v1 := .int .i64 (stepF a ys).now) (v2 := .int .i64 (stepF a ys).pa) (v3 := .int .i64 (stepF a ys).qu) (v4 := .int .i64 (stepF a ys).le) (v5 := .slice A6 (stepF a ys).wa.length c6) h6' n6a)
      have hr7 := Lib.hid (rdr_set6 (g := ga) (v0 := .int .i64 (stepF a ys).st) (v1 := .int .i64 (stepF a ys).now) (v2 := .int .i64 (stepF a ys).pa) (v3 := .int .i64 (stepF a ys).qu) (v4 := .int .i64 (stepF a ys).le) (v5 := .slice A6 (stepF a ys).wa.length c6) hr6 (by omega))
      have G7 := Lib.hid (grow_set6 (g := ga) (v0 := .int .i64 (stepF a ys).st) (v1 := .int .i64 (stepF a ys).now) (v2 := .int .i64 (stepF a ys).pa) (v3 := .int .i64 (stepF a ys).qu) (v4 := .int .i64 (stepF a ys).le) (v5 := .slice A6 (stepF a ys).wa.length c6) G6 (by omega))
      clear hba6 hbz6 h6' hr6 G6
      refine wpLateC_tail rfl (fun K hK => ?_)
      go_wp2_with fail
      refine wpLateC_nil (NoPanic.normal ?_)
      go_wp2_with fail
      go_roundw
      case rel => exact ⟨j - 1, by omega, by rw [show ((j - 1 : Nat) : Int) = (j : Int) - 1 by omega], ⟨_, A6, c6, hba7.out, hgs, h7.out, n6a, n6z⟩, hbz7.out, hr7.out.mono (by omega), G7.out⟩
      case measure => simp [intOf]; omega
    · obtain rfl : j = 0 := by omega
      obtain ⟨f0, f1, f2, f3, f4, f5⟩ := (⟨hba.cell 0, hba.cell 1, hba.cell 2, hba.cell 3, hba.cell 4, hba.cell 5⟩ : _ ∧ _ ∧ _ ∧ _ ∧ _ ∧ _)
      obtain ⟨e0, e1, e2, e3, e4, e5⟩ := (⟨hbz.cell 0, hbz.cell 1, hbz.cell 2, hbz.cell 3, hbz.cell 4, hbz.cell 5⟩ : _ ∧ _ ∧ _ ∧ _ ∧ _ ∧ _)
      have hef := hbz.frozen
      simp at e0 e1 e2 e3 e4 e5 f0 f1 f2 f3 f4 f5
      clear hba hbz
      go_wp2_with fail
      refine bodyPost_ret (v := acV a A c) (by simp [results, Try.results36, go_sem, e0, e1, e2, e3, e4, e5]) rfl ⟨a, A, c, rfl, hg, own_set6 ho hnz, (rdr_set6 hr4 hlt).mono (by omega), grow_set6 G4 (Nat.le_refl _)⟩
end Go.Proofs.Ytkppjngpllmpfaa
