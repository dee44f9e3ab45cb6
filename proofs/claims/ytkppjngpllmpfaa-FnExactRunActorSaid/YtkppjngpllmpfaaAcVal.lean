/-
  Controllers as values: validity, copies, comparisons.
-/
import Derived.Test.YtkppjngpllmpfaaAcMath
import Derived.Test.YtkppjngpllmpfaaReg
namespace Go.Proofs.Ytkppjngpllmpfaa
open Go.RowKit
set_option linter.unusedVariables false

abbrev acC (a : Ctl) (A : Option Addr) (c : Nat) : Array Value := #[.int .i64 a.st, .int .i64 a.now, .int .i64 a.pa, .int .i64 a.qu, .int .i64 a.le, .slice A a.wa.length c]
abbrev acV (a : Ctl) (A : Option Addr) (c : Nat) : Value := .agg (acC a A c)

abbrev acZ : Array Value := #[.int .i64 0, .int .i64 0, .int .i64 0, .int .i64 0, .int .i64 0, .slice none 0 0]

/-! ### a whole controller is stored -/
abbrev set6 (w : World) (g : Nat) (v0 v1 v2 v3 v4 v5 : Value) : World := (((((w.setCell ⟨g, 0, none⟩ v0).setCell ⟨g, 1, none⟩ v1).setCell ⟨g, 2, none⟩ v2).setCell ⟨g, 3, none⟩ v3).setCell ⟨g, 4, none⟩ v4).setCell ⟨g, 5, none⟩ v5
section
variable {w w' : World} {g : Nat} {v0 v1 v2 v3 v4 v5 : Value}
theorem only_set6 (w : World) (g : Nat) (v0 v1 v2 v3 v4 v5 : Value) : w.grownBy (set6 w g v0 v1 v2 v3 v4 v5) (some g) := by
  have h0 := only_set (w := w) (g := g) (k := 0) v0
  have h1 := only_setCell h0 (p := ⟨g, 1, none⟩) (.inl rfl) v1
  have h2 := only_setCell h1 (p := ⟨g, 2, none⟩) (.inl rfl) v2
  have h3 := only_setCell h2 (p := ⟨g, 3, none⟩) (.inl rfl) v3
  have h4 := only_setCell h3 (p := ⟨g, 4, none⟩) (.inl rfl) v4
  exact only_setCell h4 (p := ⟨g, 5, none⟩) (.inl rfl) v5
theorem below_set6 {B : Nat} (h : Below B w w') (hg : B ≤ g) : Below B w (set6 w' g v0 v1 v2 v3 v4 v5) :=
  (((((h.setCell hg _).setCell hg _).setCell hg _).setCell hg _).setCell hg _).setCell hg _
theorem own_set6 {α : Type} {f : α → Value} {lo : Nat} {e : TypeId} {A : Option Addr} {cap : Nat} {xs : List α} (h : OwnO f w lo e A cap xs) (hne : ∀ b, blk A = some b → b ≠ g) : OwnO f (set6 w g v0 v1 v2 v3 v4 v5) lo e A cap xs :=
  h.grown (only_set6 _ _ _ _ _ _ _ _) (by
    cases hA : blk A with
    | none => exact .inl rfl
    | some b => exact .inr fun e => hne b hA (by injection e))
theorem Blk.set6 {t : TypeId} {u0 u1 u2 u3 u4 u5 : Value} (h : Blk w g t #[u0, u1, u2, u3, u4, u5]) : Blk (set6 w g v0 v1 v2 v3 v4 v5) g t #[v0, v1, v2, v3, v4, v5] := by
  have := ((((((h.set_ 0 v0).set_ 1 v1).set_ 2 v2).set_ 3 v3).set_ 4 v4).set_ 5 v5)
  simpa using this
theorem Blk.new2 (w : World) (o : Obj) (t : TypeId) (cs : Array Value) : Blk ((w.alloc o).alloc (.cells cs t)) (w.heap.size + 1) t cs := by
  have := Blk.new (w.alloc o) t cs
  simpa using this
theorem Blk.new3 (w : World) (o o' : Obj) (t : TypeId) (cs : Array Value) : Blk (((w.alloc o).alloc o').alloc (.cells cs t)) (w.heap.size + 1 + 1) t cs := by
  have := Blk.new ((w.alloc o).alloc o') t cs
  simpa using this
end

theorem inB_iff {x lo hi : Int} : inB x lo hi = true ↔ lo ≤ x ∧ x ≤ hi := by simp [inB]

set_option maxHeartbeats 800000 in
theorem sValidA_any (a : Ctl) (A : Option Addr) (c : Nat) (w : World) :
    Calls Try.prog 30 #[acV a A c] w fun e w' => e = .returned (.bool (validA a)) ∧ Below w.heap.size w w' := by
  obtain ⟨st, now, pa, qu, le, wa⟩ := a
  have hbox := (Below.refl w.heap.size w).alloc (Nat.le_refl _) (.cells (acC ⟨st, now, pa, qu, le, wa⟩ A c) 25)
  go_enter Try.func30, Try.ntmps30
  go_wp2_with fail
  refine (inRange_any _ _ _ _).mono ?_
  cases h1 : inB st 1 5
  · rintro e w' ⟨rfl, rfl⟩
    go_wp2_with fail
    go_ret
    exact ⟨by simp [validA, h1], hbox⟩
  obtain ⟨s1, s2⟩ := inB_iff.mp h1
  rintro e w' ⟨rfl, rfl⟩
  go_wp2_with fail
  refine (inRange_any _ _ _ _).mono ?_
  cases h2 : inB now 0 (st - 1)
  · rintro e w' ⟨rfl, rfl⟩
    go_wp2_with fail
    go_ret
    exact ⟨by simp [validA, h1, h2], hbox⟩
  rintro e w' ⟨rfl, rfl⟩
  go_wp2_with fail
  refine (inRange_any _ _ _ _).mono ?_
  cases h3 : inB pa 0 40
  · rintro e w' ⟨rfl, rfl⟩
    go_wp2_with fail
    go_ret
    exact ⟨by simp [validA, h1, h2, h3], hbox⟩
  rintro e w' ⟨rfl, rfl⟩
  go_wp2_with fail
  refine (inRange_any _ _ _ _).mono ?_
  cases h4 : inB qu 0 pa
  · rintro e w' ⟨rfl, rfl⟩
    go_wp2_with fail
    go_ret
    exact ⟨by simp [validA, h1, h2, h3, h4], hbox⟩
  rintro e w' ⟨rfl, rfl⟩
  go_wp2_with fail
  refine (inRange_any _ _ _ _).mono ?_
  cases h5 : inB le 0 5
  · rintro e w' ⟨rfl, rfl⟩
    go_wp2_with fail
    go_ret
    exact ⟨by simp [validA, h1, h2, h3, h4, h5], hbox⟩
  rintro e w' ⟨rfl, rfl⟩
  by_cases h6 : ((wa.length : Nat) : Int) = st
  · have h7 : (((wa.length : Nat) : Int) == st) = true := by simpa using h6
    have H6 := Lib.hid h6
    clear h6
    go_wp2_with fail
    go_ret
    exact ⟨by simp [validA, h1, h2, h3, h4, h5, H6.out], hbox⟩
  · have h7 : (((wa.length : Nat) : Int) == st) = false := by simpa using h6
    go_wp2_with fail
    go_ret
    exact ⟨by simp [validA, h1, h2, h3, h4, h5, h6], hbox⟩


set_option maxHeartbeats 800000 in
theorem iValidA_any (a : Ctl) (A : Option Addr) (c : Nat) (w : World) :
    Calls Try.prog 27 #[acV a A c] w fun e w' => e = .returned (.bool (validA a)) ∧ Below w.heap.size w w' := by
  obtain ⟨st, now, pa, qu, le, wa⟩ := a
  have hbox := (Below.refl w.heap.size w).alloc (Nat.le_refl _) (.cells (acC ⟨st, now, pa, qu, le, wa⟩ A c) 25)
  go_enter Try.func27, Try.ntmps27
  go_wp2_with fail
  refine (within_any _ _ _ _).mono ?_
  cases h1 : inB st 1 5
  · rintro e w' ⟨rfl, rfl⟩
    go_wp2_with fail
    go_ret
    exact ⟨by simp [validA, h1], hbox⟩
  obtain ⟨s1, s2⟩ := inB_iff.mp h1
  rintro e w' ⟨rfl, rfl⟩
  go_wp2_with fail
  refine (within_any _ _ _ _).mono ?_
  cases h2 : inB now 0 (st - 1)
  · rintro e w' ⟨rfl, rfl⟩
    go_wp2_with fail
    go_ret
    exact ⟨by simp [validA, h1, h2], hbox⟩
  rintro e w' ⟨rfl, rfl⟩
  go_wp2_with fail
  refine (within_any _ _ _ _).mono ?_
  cases h3 : inB pa 0 40
  · rintro e w' ⟨rfl, rfl⟩
    go_wp2_with fail
    go_ret
    exact ⟨by simp [validA, h1, h2, h3], hbox⟩
  rintro e w' ⟨rfl, rfl⟩
  go_wp2_with fail
  refine (within_any _ _ _ _).mono ?_
  cases h4 : inB qu 0 pa
  · rintro e w' ⟨rfl, rfl⟩
    go_wp2_with fail
    go_ret
    exact ⟨by simp [validA, h1, h2, h3, h4], hbox⟩
  rintro e w' ⟨rfl, rfl⟩
  go_wp2_with fail
  refine (within_any _ _ _ _).mono ?_
  cases h5 : inB le 0 5
  · rintro e w' ⟨rfl, rfl⟩
    go_wp2_with fail
    go_ret
    exact ⟨by simp [validA, h1, h2, h3, h4, h5], hbox⟩
  rintro e w' ⟨rfl, rfl⟩
  by_cases h6 : ((wa.length : Nat) : Int) = st
  · have h7 : (((wa.length : Nat) : Int) == st) = true := by simpa using h6
    have H6 := Lib.hid h6
    clear h6
    go_wp2_with fail
    go_ret
    exact ⟨by simp [validA, h1, h2, h3, h4, h5, H6.out], hbox⟩
  · have h7 : (((wa.length : Nat) : Int) == st) = false := by simpa using h6
    go_wp2_with fail
    go_ret
    exact ⟨by simp [validA, h1, h2, h3, h4, h5, h6], hbox⟩

def boundA (a : Ctl) : Int := if validA a then (a.st - 1) * 45 else -1

/-- A controller that was copied: its wishes lie in new memory. -/
def AcNew (a : Ctl) (w : World) (e : Ending) (w' : World) : Prop :=
  ∃ A c, e = .returned (acV a A c) ∧ OwnO fB w' w.heap.size 4 A c a.wa ∧ Below w.heap.size w w'

set_option maxHeartbeats 800000 in
theorem toActor_any (a : Ctl) (A : Option Addr) (c : Nat) (w : World) (hr : RdL fB w A a.wa) (hn : a.wa.length ≤ 1048576) :
    Calls Try.prog 14 #[acV a A c] w (AcNew a w) := by
  obtain ⟨st, now, pa, qu, le, wa⟩ := a
  go_enter Try.func14, Try.ntmps14
  go_wp2_with fail
  refine (toBoolS_any wa A c _ (((hr.alloc _).alloc _).alloc _) hn).mono ?_
  rintro e w1 ⟨A1, c1, rfl, ho, hb⟩
  have bT := ((Blk.new2 w (.cells (acC ⟨st, now, pa, qu, le, wa⟩ A c) 34) 25 acZ).alloc (.cells #[.int .i64 st, .int .i64 now, .int .i64 pa, .int .i64 qu, .int .i64 le, .slice none 0 0] 25)).below hb (by simp)
  have bO := (Blk.new3 w (.cells (acC ⟨st, now, pa, qu, le, wa⟩ A c) 34) (.cells acZ 25) 25 #[.int .i64 st, .int .i64 now, .int .i64 pa, .int .i64 qu, .int .i64 le, .slice none 0 0]).below hb (by simp)
  have hB : Below w.heap.size w w1 := ((((Below.refl w.heap.size w).alloc (Nat.le_refl _) _).alloc (by simp) _).alloc (by simp; omega) _).trans (hb.mono (by simp; omega))
  have hlo := ho.ltb
  have hA1 : ∀ b, blk A1 = some b → w.heap.size + 3 ≤ b := fun b h => by have := (hlo b h).1; simp at this; omega
  have HO := Lib.hid (ho.o.mono (lo' := w.heap.size) (by simp; omega))
  have f0 := bO.cell 0
  have f1 := bO.cell 1
  have f2 := bO.cell 2
  have f3 := bO.cell 3
  have f4 := bO.cell 4
  have f5 := bO.cell 5
  have ff := bO.frozen
  have e0 := bT.cell 0
  have e1 := bT.cell 1
  have e2 := bT.cell 2
  have e3 := bT.cell 3
  have e4 := bT.cell 4
  have e5 := bT.cell 5
  have ef := bT.frozen
  simp at f0 f1 f2 f3 f4 f5 e0 e1 e2 e3 e4 e5
  clear hb ho bT bO hlo hr
  go_wp2_with fail
  refine bodyPost_ret (v := acV ⟨st, now, pa, qu, le, wa⟩ A1 c1) (by simp [results, Try.results14, go_sem, e0, e1, e2, e3, e4, e5]) rfl ⟨A1, c1, rfl, ?_, ?_⟩
  · exact own_set6 (HO.out.grown (only_set _) (by
      cases hA : blk A1 with
      | none => exact .inl rfl
      | some b => exact .inr fun e => by have := hA1 b hA; injection e; omega)) fun b h => by have := hA1 b h; omega
  · exact below_set6 (hB.setCell (by simp; omega) _) (by simp)

theorem eqActor_same (a : Ctl) (A B : Option Addr) (c d : Nat) (w : World) (hx : RdL fB w A a.wa) (hy : RdL fB w B a.wa) (hn : a.wa.length ≤ 2000000) :
    Calls Try.prog 17 #[acV a A c, acV a B d] w fun e w' => e = .returned (.bool true) ∧ Below w.heap.size w w' := by
  obtain ⟨st, now, pa, qu, le, wa⟩ := a
  go_enter Try.func17, Try.ntmps17
  go_wp2_with fail
  refine (eqBoolS_same wa A B c d _ ((hx.alloc _).alloc _) ((hy.alloc _).alloc _) hn).mono ?_
  rintro e w1 ⟨rfl, hb⟩
  go_wp2_with fail
  go_ret
  exact ⟨rfl, (((Below.refl _ _).alloc (Nat.le_refl _) _).alloc (by simp) _).trans (hb.mono (by simp; omega))⟩
end Go.Proofs.Ytkppjngpllmpfaa
