/-
  The generators of lists: copyInts, spoil, randomBools, anyLength.
-/
import Derived.Test.YtkppjngpllmpfaaRd
import Derived.Test.YtkppjngpllmpfaaLs
namespace Go.Proofs.Ytkppjngpllmpfaa
open Go.RowKit
set_option linter.unusedVariables false


/-- A generator hands back a new slice of which Pr holds. -/
def DrawL {α : Type} (f : α → Value) (T : TypeId) (w : World) (rb N : Nat) (Pr : List α → Prop) (e : Ending) (w' : World) : Prop :=
  ∃ xs A c, e = .returned (.slice A xs.length c) ∧ OwnO f w' w.heap.size T A c xs ∧ Pr xs ∧ Rdr w' rb N ∧ w.grownBy w' (some rb)

set_option maxHeartbeats 800000 in
theorem randomBools_any (w : World) (rb M : Nat) (n : Int) (hr : Rdr w rb M) (hM : M ≤ 900000000) (hn : n ≤ 1000) :
    Calls Try.prog 26 #[.pointer (some ⟨rb, 0, none⟩), .int .i64 n] w (DrawL fB 4 w rb (M + n.toNat + 1) (fun xs => xs.length = n.toNat)) := by
  obtain ⟨i0, hi0, hz0, hz1, hz2⟩ := info_parts info_Bool
  have h0 := (OwnL.of_cap (lo := w.heap.size) fB (Blk.new w 4 #[]) (Nat.le_refl _) rfl (by simp [maxLen])).o
  have hlt := hr.lt
  go_enter Try.func26, Try.ntmps26
  go_wp2_with fail
  refine (pick_any _ rb M _ (hr.alloc _) (by omega)).mono ?_
  rintro e w1 ⟨k1, rfl, ha1, hb1, hr1, hg1⟩
  have h1 := h0.grown hg1 (by simp; omega)
  have G1 := only_trans (only_alloc (only_refl w (some rb)) (.cells #[] 4)) hg1
  clear hg1 h0 hr hb1
  go_wp2_with fail
  go_loopw [5, 6, 7] (fun v5 v6 i wr => ∃ k : Nat, k ≤ n.toNat ∧ i = .int .i64 k ∧ (∃ t : Bool, v6 = .bool t) ∧ (∃ xs A c, v5 = .slice A xs.length c ∧ OwnO fB wr w.heap.size 4 A c xs ∧ xs.length = k) ∧ Rdr wr rb (M + k + 1) ∧ w.grownBy wr (some rb)) (fun _ _ i _ => n.toNat - (intOf i).toNat)
  case atStart => exact ⟨0, by omega, rfl, ⟨_, rfl⟩, ⟨[], _, _, rfl, h1, rfl⟩, hr1, G1⟩
  case round =>
    clear h1 G1 hr1
    obtain ⟨k, hk, rfl, ⟨t, rfl⟩, ⟨xs, A, c, rfl, ho, hxk⟩, hr1, G1⟩ := hrel
    have Hxk := Lib.hid hxk
    have hxk1 : xs.length ≤ k := by omega
    clear hxk
    by_cases hlt2 : k < n.toNat
    · have hlt3 : (k : Int) < n := by omega
      go_wp2_with fail
      refine (pick_any _ rb _ _ hr1 (by omega)).mono ?_
      rintro e w2 ⟨k2, rfl, ha2, hb2, hr2, hg2⟩
      have hsz := G1.size
      have hlo := ho.lt
      replace ho := ho.grown hg2 (by
        cases hA : blk A with
        | none => exact .inl rfl
        | some b => right; have := hlo b hA; simp; omega)
      replace G1 := only_trans G1 hg2
      have hsz2 := G1.size
      have hlo2 := ho.lt
      clear hg2 hb2 hr1 hlo
      by_cases hk2 : k2 = 0
      · subst hk2
        go_wp2_with (at_builtin; refine wpList_pushO rfl (.tmp 22) (.tmp 24) 23 rfl i0 _ 1 Try.underlying23 hi0 hz0 hz1 hz2 rfl rfl (ho.alloc _) w2.heap.size _ rfl (cell_new _ _ _) rfl (by omega) (by omega) (by simp; omega) ?_; intro A3 c3 w3 ho3 hg3 hb3)
        have hr3 := (hr2.alloc _).grown hg3 (fun b hb => by have := hlo2 b hb; omega)
        have G3 := only_own (only_alloc G1 _) hg3 (fun b hb => (hlo2 b hb).1)
        go_roundw
        case rel => exact ⟨k + 1, by omega, by go_num, ⟨_, rfl⟩, ⟨_, A3, c3, by simp, ho3, by have := Hxk.out; simp; omega⟩, hr3.mono (by omega), G3⟩
        case measure => simp [intOf]; omega
      · have hk3 : (k2 == 0) = false := by simpa using hk2
        clear hk2
        go_wp2_with (at_builtin; refine wpList_pushO rfl (.tmp 22) (.tmp 24) 23 rfl i0 _ 1 Try.underlying23 hi0 hz0 hz1 hz2 rfl rfl (ho.alloc _) w2.heap.size _ rfl (cell_new _ _ _) rfl (by omega) (by omega) (by simp; omega) ?_; intro A3 c3 w3 ho3 hg3 hb3)
        have hr3 := (hr2.alloc _).grown hg3 (fun b hb => by have := hlo2 b hb; omega)
        have G3 := only_own (only_alloc G1 _) hg3 (fun b hb => (hlo2 b hb).1)
        go_roundw
        case rel => exact ⟨k + 1, by omega, by go_num, ⟨_, rfl⟩, ⟨_, A3, c3, by simp, ho3, by have := Hxk.out; simp; omega⟩, hr3.mono (by omega), G3⟩
        case measure => simp [intOf]; omega
    · obtain rfl : k = n.toNat := by omega
      have hlt3 : n ≤ ((n.toNat : Nat) : Int) := by omega
      go_wp2_with fail
      go_ret
      exact ⟨xs, A, c, rfl, ho, Hxk.out, hr1, G1⟩



end Go.Proofs.Ytkppjngpllmpfaa
