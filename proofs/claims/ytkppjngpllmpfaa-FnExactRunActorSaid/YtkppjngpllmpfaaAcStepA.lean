/-
  StepActor: the program's and the reference's.
-/
import Derived.Test.YtkppjngpllmpfaaAcStepI
namespace Go.Proofs.Ytkppjngpllmpfaa
open Go.RowKit
set_option linter.unusedVariables false

theorem cloneB_any (xs : List Bool) (A : Option Addr) (cap : Nat) (w : World) (hr : RdL fB w A xs) (hn : xs.length ≤ 2000000) :
    Calls Try.prog 28 #[.slice A xs.length cap] w (NewS fB 4 w xs) := by
  obtain ⟨i0, hi0, hz0, hz1, hz2⟩ := info_parts info_Bool
  have q22 : ∀ (w : World) (a : Option Addr) (n c n' c' : Nat), (binOp .eql 23 (.slice a n c) (.slice none n' c')).run Try.prog w = .ok (.bool a.isNone) w := fun w a n c n' c' => Lib.run_eql_slice_nil w _ _ a n c n' c' Try.underlying23
  cases A with
  | none =>
    obtain rfl : xs = [] := by
      rcases hr with h | ⟨b, o, h, _⟩
      · exact h
      · cases h
    simp only [List.length_nil]
    go_enter Try.func28, Try.ntmps28
    go_wp2_with fail
    go_ret
    exact ⟨none, 0, rfl, OwnO.nil _ _ _ _, Below.refl _ _⟩
  | some ad =>
    have h0 := OwnL.of_cap (lo := w.heap.size) fB (Blk.new w 4 #[]) (Nat.le_refl _) rfl (by simp [maxLen])
    go_enter Try.func28, Try.ntmps28
    go_wp2_with (at_builtin; refine wpList_appendL rfl (.tmp 5) (.tmp 6) 23 rfl i0 _ 1 Try.underlying23 hi0 hz0 hz1 hz2 rfl rfl h0 (some ad) xs cap rfl (hr.alloc _) (fun _ => rfl) (by simp; omega) (by omega) (by simp) ?_; intro A' c' w' ho hg hb)
    go_ret
    exact ⟨A', c', rfl, (by simpa using ho : OwnL fB w' w.heap.size 4 A' c' xs).o, ((Below.refl _ _).alloc (Nat.le_refl _) _).grown hg (by simp) (fun k e => by simp at e; omega)⟩

/-- The zero value. -/
def zeroA : Ctl := ⟨0, 0, 0, 0, 0, []⟩
def okA (a : Ctl) (cars : List Bool) : Bool := validA a && decide ((cars.length : Int) = a.st)
def stepG (a : Ctl) (cars : List Bool) : Ctl := if okA a cars then stepF a cars else zeroA
theorem okA_good {a : Ctl} {cars : List Bool} (h : okA a cars = true) : Good a ∧ a.wa.length = cars.length := by
  simp only [okA, Bool.and_eq_true, decide_eq_true_eq] at h
  have hg := validA_iff.mp h.1
  have := hg.wa
  exact ⟨hg, by omega⟩
theorem okA_of {a : Ctl} {cars : List Bool} (hg : Good a) (h : a.wa.length = cars.length) : okA a cars = true := by
  have := hg.wa
  simp only [okA, validA_iff.mpr hg, Bool.true_and, decide_eq_true_eq]
  omega


set_option maxHeartbeats 1600000 in
theorem iStepG_any (a : Ctl) (cars : List Bool) (A C : Option Addr) (c d : Nat) (w : World) (hr : RdL fB w A a.wa) (hc : RdL fB w C cars) :
    Calls Try.prog 11 #[acV a A c, .slice C cars.length d] w (AcNew (stepG a cars) w) := by
  have hbx := (Blk.new w 25 (acC a A c)).alloc (.cells acZ 25)
  have hbz := Blk.new2 w (.cells (acC a A c) 25) 25 acZ
  have hB := ((Below.refl w.heap.size w).alloc (Nat.le_refl _) (.cells (acC a A c) 25)).alloc (by simp) (.cells acZ 25)
  have hxl := hbx.lt
  have hzl := hbz.lt
  have hc0 := hc
  replace hr := hr.below hB
  replace hc := hc.below hB
  have hz := hB.size
  go_enter Try.func11, Try.ntmps11
  go_wp2_with fail
  refine (iValidA_any a A c _).mono ?_
  rintro e w1 ⟨rfl, b1⟩
  replace hbx := hbx.below b1 hxl
  replace hbz := hbz.below b1 hzl
  replace hr := hr.below b1
  replace hc := hc.below b1
  replace hB := hB.trans (b1.mono hz)
  have hz1 := hB.size
  clear b1
  obtain ⟨f0, f1, f2, f3, f4, f5⟩ := loadT hbx
  have hff := hbx.frozen
  obtain ⟨e0, e1, e2, e3, e4, e5⟩ := (⟨hbz.cell 0, hbz.cell 1, hbz.cell 2, hbz.cell 3, hbz.cell 4, hbz.cell 5⟩ : _ ∧ _ ∧ _ ∧ _ ∧ _ ∧ _)
  have hef := hbz.frozen
  simp at e0 e1 e2 e3 e4 e5
  cases hv : okA a cars with
  | false =>
    have HG := Lib.hid (show stepG a cars = zeroA by simp [stepG, hv])
    have hfin : ∀ w', Below w.heap.size w w' → AcNew (stepG a cars) w (.returned (.agg acZ)) w' := fun w' h => by
      rw [HG.out]
      exact ⟨none, 0, rfl, OwnO.nil _ _ _ _, h⟩
    cases hva : validA a with
    | false =>
      clear hr hc hc0 hbx hbz
      go_wp2_with fail
      refine bodyPost_ret (v := .agg acZ) (by simp [results, Try.results11, go_sem, e0, e1, e2, e3, e4, e5]) rfl (hfin _ (below_set6 hB (by omega)))
    | true =>
      have hne : (((cars.length : Nat) : Int) == a.st) = false := by
        simp only [okA, hva, Bool.true_and, decide_eq_false_iff_not] at hv
        simpa using hv
      clear hr hc hc0 hbx hbz
      go_wp2_with fail
      refine bodyPost_ret (v := .agg acZ) (by simp [results, Try.results11, go_sem, e0, e1, e2, e3, e4, e5]) rfl (hfin _ (below_set6 hB (by omega)))
  | true =>
    obtain ⟨hg, hl⟩ := okA_good hv
    have hva : validA a = true := validA_iff.mpr hg
    have hne : (((cars.length : Nat) : Int) == a.st) = true := by
      simp only [okA, hva, Bool.true_and, decide_eq_true_eq] at hv
      simpa using hv
    have HG := Lib.hid (show stepG a cars = stepF a cars by simp [stepG, hv])
    have HL := Lib.hid hl
    have hw5 : a.wa.length ≤ 5 := by have := hg.wa; have := hg.st; omega
    have hcl : ∀ b o, C = some ⟨b, o, none⟩ → b < w.heap.size := fun b o hC => by
      have h0 : 0 < cars.length := by have := hg.wa; have := hg.st; omega
      obtain ⟨b', o', e, hcell⟩ := hc0.at h0
      rw [hC] at e
      injection e with e
      injection e with e e'
      subst e e'
      exact World.block_lt_of_cell? w _ hcell
    have Hcl := Lib.hid hcl
    have HBX := Lib.hid hbx
    have HBZ := Lib.hid hbz
    have HC := Lib.hid hc
    have HGd := Lib.hid hg
    rw [hva]
    clear hl hv hva hc hc0 hbz e0 e1 e2 e3 e4 e5 hef hcl hg hbx
    go_wp2_with fail
    refine (cloneB_any a.wa A c _ hr (by omega)).mono ?_
    rintro e w2 ⟨A2, c2, rfl, h2, b2⟩
    have hbx := HBX.out.below b2 HBX.out.lt
    have hbz := HBZ.out.below b2 HBZ.out.lt
    have hc := HC.out.below b2
    have hlo := h2.lt
    have hw1 := HBZ.out.lt
    obtain ⟨f0, f1, f2, f3, f4, f5⟩ := loadT hbx
    have hff := hbx.frozen
    have hB2 := hB.trans (b2.mono hz1)
    have hbx3 : Blk (w2.setCell ⟨w.heap.size, 5, none⟩ (.slice A2 a.wa.length c2)) w.heap.size 25 (acC a A2 c2) := by
      have := hbx.set_ 5 (.slice A2 a.wa.length c2)
      simpa using this
    have hne2 : ∀ b, blk A2 = some b → b ≠ w.heap.size := fun b h => by have := (hlo b h).1; omega
    have h3 := (h2.mono (show w.heap.size ≤ w1.heap.size from hz1)).grown (only_set (w := w2) (g := w.heap.size) (k := 5) (.slice A2 a.wa.length c2)) (by
      cases hA : blk A2 with
      | none => exact .inl rfl
      | some b => exact .inr fun e => hne2 b hA (by injection e))
    have hc3 := hc.grown (only_set (w := w2) (g := w.heap.size) (k := 5) (.slice A2 a.wa.length c2)) (fun b o hC e => by have := Hcl.out b o hC; injection e; omega)
    have hbz3 := hbz.far (p := ⟨w.heap.size, 5, none⟩) (by simp) (.slice A2 a.wa.length c2)
    have hB3 := hB2.setCell (p := ⟨w.heap.size, 5, none⟩) (Nat.le_refl _) (.slice A2 a.wa.length c2)
    have hstep := iStepM_any a cars A2 C c2 d w.heap.size w.heap.size _ HGd.out HL.out hbx3 (Nat.le_refl _) h3 hne2 hc3 Hcl.out
    have HBZ3 := Lib.hid hbz3
    clear hbx hbz hc b2 h2 h3 hc3 hbz3 hbx3 hr
    go_wp2_with fail
    refine hstep.mono ?_
    rintro e w4 ⟨rfl, hbx4, h4, htwo⟩
    have hbz4 := HBZ3.out.two htwo (by omega) (fun e => by have := (hlo _ e.symm).1; omega)
    have hB4 := htwo.below hB3 (Nat.le_refl _) (fun b h => by have := (hlo b h).1; omega) hB3.size
    obtain ⟨k0, k1, k2, k3, k4, k5⟩ := loadT hbx4
    obtain ⟨e0, e1, e2, e3, e4, e5⟩ := (⟨hbz4.cell 0, hbz4.cell 1, hbz4.cell 2, hbz4.cell 3, hbz4.cell 4, hbz4.cell 5⟩ : _ ∧ _ ∧ _ ∧ _ ∧ _ ∧ _)
    have hef := hbz4.frozen
    simp at e0 e1 e2 e3 e4 e5
    have HO := Lib.hid h4
    clear htwo hbx4 hbz4 h4 hstep f0 f1 f2 f3 f4 f5 hff
    go_wp2_with fail
    refine bodyPost_ret (v := acV (stepF a cars) A2 c2) (by simp [results, Try.results11, go_sem, e0, e1, e2, e3, e4, e5]) rfl ?_
    rw [HG.out]
    exact ⟨A2, c2, rfl, own_set6 HO.out (fun b h => by have := (hlo b h).1; omega), below_set6 hB4 (by omega)⟩
end Go.Proofs.Ytkppjngpllmpfaa
