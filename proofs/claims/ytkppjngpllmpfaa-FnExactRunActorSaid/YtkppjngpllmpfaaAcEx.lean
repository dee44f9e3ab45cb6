/-
  The statements 'the program returns what the reference returns' on controllers: what they share.
-/
import Derived.Test.YtkppjngpllmpfaaOpen
import Derived.Test.YtkppjngpllmpfaaAcVal
namespace Go.Proofs.Ytkppjngpllmpfaa
open Go.RowKit
set_option linter.unusedVariables false

def szF (n : Nat) (left : Int) : Int := if (n : Int) ≤ left then left - n else -1
theorem szBoolS_any (A : Option Addr) (n c : Nat) (left : Int) (w : World) (hn : n ≤ maxLen) (h0 : 0 ≤ left) (h1 : left ≤ 1048576) :
    Calls Try.prog 32 #[.slice A n c, .int .i64 left] w fun e w' => e = .returned (.int .i64 (szF n left)) ∧ w = w' := by
  unfold maxLen at hn
  by_cases h : (n : Int) ≤ left
  · have H := Lib.hid (show szF n left = left - n by simp [szF, h])
    go_enter Try.func32, Try.ntmps32
    go_wp2_with fail
    go_ret
    exact ⟨ret_int H.out.symm, rfl⟩
  · have H := Lib.hid (show szF n left = -1 by simp [szF, h])
    go_enter Try.func32, Try.ntmps32
    go_wp2_with fail
    go_ret
    exact ⟨ret_int H.out.symm, rfl⟩
theorem szActor_any (a : Ctl) (A : Option Addr) (c : Nat) (w : World) (hn : a.wa.length ≤ maxLen) :
    Calls Try.prog 12 #[acV a A c, .int .i64 1048576] w fun e w' => e = .returned (.int .i64 (szF a.wa.length 1048576)) ∧ Below w.heap.size w w' := by
  obtain ⟨st, now, pa, qu, le, wa⟩ := a
  have hb : (-1 : Int) ≤ szF wa.length 1048576 := by unfold szF; split <;> omega
  have hbox := (Below.refl w.heap.size w).alloc (Nat.le_refl _) (.cells (acC ⟨st, now, pa, qu, le, wa⟩ A c) 34)
  go_enter Try.func12, Try.ntmps12
  go_wp2_with fail
  refine (szBoolS_any A wa.length c 1048576 _ hn (by omega) (by omega)).mono ?_
  rintro e w' ⟨rfl, rfl⟩
  by_cases h : szF wa.length 1048576 < 0
  · have H := Lib.hid (show -1 = szF wa.length 1048576 by omega)
    go_wp2_with fail
    go_ret
    exact ⟨ret_int H.out, hbox⟩
  · go_wp2_with fail
    go_ret
    exact ⟨rfl, hbox⟩

/-- A boxed controller, in every world that meets S. -/
theorem held_cells {S : World → Prop} {g : Nat} {t : TypeId} {a : Ctl} {A : Option Addr} {c : Nat} (h : ∀ x, S x → Blk x g t (acC a A c)) :
    (∀ y : Held S, y.x.cell? ⟨g, 0, none⟩ = some (.int .i64 a.st)) ∧ (∀ y : Held S, y.x.cell? ⟨g, 1, none⟩ = some (.int .i64 a.now)) ∧ (∀ y : Held S, y.x.cell? ⟨g, 2, none⟩ = some (.int .i64 a.pa)) ∧
    (∀ y : Held S, y.x.cell? ⟨g, 3, none⟩ = some (.int .i64 a.qu)) ∧ (∀ y : Held S, y.x.cell? ⟨g, 4, none⟩ = some (.int .i64 a.le)) ∧ (∀ y : Held S, y.x.cell? ⟨g, 5, none⟩ = some (.slice A a.wa.length c)) :=
  ⟨fun y => (h y.x y.h).cell 0, fun y => (h y.x y.h).cell 1, fun y => (h y.x y.h).cell 2, fun y => (h y.x y.h).cell 3, fun y => (h y.x y.h).cell 4, fun y => (h y.x y.h).cell 5⟩
/-- A boxed controller. -/
theorem box_cells {w : World} {g : Nat} {t : TypeId} {a : Ctl} {A : Option Addr} {c : Nat} (h : Blk w g t (acC a A c)) :
    w.cell? ⟨g, 0, none⟩ = some (.int .i64 a.st) ∧ w.cell? ⟨g, 1, none⟩ = some (.int .i64 a.now) ∧ w.cell? ⟨g, 2, none⟩ = some (.int .i64 a.pa) ∧
    w.cell? ⟨g, 3, none⟩ = some (.int .i64 a.qu) ∧ w.cell? ⟨g, 4, none⟩ = some (.int .i64 a.le) ∧ w.cell? ⟨g, 5, none⟩ = some (.slice A a.wa.length c) :=
  ⟨h.cell 0, h.cell 1, h.cell 2, h.cell 3, h.cell 4, h.cell 5⟩
end Go.Proofs.Ytkppjngpllmpfaa
