/-
  The generators of lists: copyInts, spoil, randomBools, anyLength.
-/
import Derived.Test.YtcckipckgnkieaaRd
import Derived.Test.YtcckipckgnkieaaLs
namespace Go.Proofs.Ytcckipckgnkieaa
open Go.RowKit
set_option linter.unusedVariables false

theorem copyInts_any (xs : List Int) (A : Option Addr) (cap : Nat) (w : World) (hr : RdL fI w A xs) (hn : xs.length ≤ 2000000) :
    Calls Try.prog 62 #[.slice A xs.length cap] w (New fI 3 w xs) := by
  obtain ⟨i0, hi0, hz0, hz1, hz2⟩ := info_parts info_Int
  have h0 := OwnL.of_cap (lo := w.heap.size) fI (Blk.new w 3 #[]) (Nat.le_refl _) rfl (by simp [maxLen])
  go_enter Try.func62, Try.ntmps62
  go_wp2_with (at_builtin; refine wpList_appendL rfl (.tmp 3) (.tmp 4) 32 rfl i0 _ 8 Try.underlying32 hi0 hz0 hz1 hz2 rfl rfl h0 A xs cap rfl (hr.alloc _) (fun _ => rfl) (by simp; omega) (by omega) (by simp) ?_; intro A' c' w' ho hg hb)
  go_ret
  exact ⟨A', c', rfl, by simpa using ho, ((Below.refl _ _).alloc (Nat.le_refl _) _).grown hg (by simp) (fun k e => by simp at e; omega)⟩

/-- A generator hands back a new slice of which Pr holds. -/
def DrawL {α : Type} (f : α → Value) (T : TypeId) (w : World) (rb N : Nat) (Pr : List α → Prop) (e : Ending) (w' : World) : Prop :=
  ∃ xs A c, e = .returned (.slice A xs.length c) ∧ OwnO f w' w.heap.size T A c xs ∧ Pr xs ∧ Rdr w' rb N ∧ w.grownBy w' (some rb)



set_option maxRecDepth 100000 in
set_option maxHeartbeats 1600000 in
theorem spoil_any (w : World) (rb M : Nat) (zs : List Int) (A : Option Addr) (c : Nat) (n : Int) (hr : Rdr w rb M) (hM : M ≤ 900000000) (hz : RdL fI w A zs) (hn : zs.length ≤ 2000) :
    Calls Try.prog 89 #[.pointer (some ⟨rb, 0, none⟩), .slice A zs.length c, .int .i64 n] w (DrawL fI 3 w rb (M + 3) (fun xs => xs.length ≤ zs.length + 1)) := by
  obtain ⟨i0, hi0, hz0, hz1, hz2⟩ := info_parts info_Int
  have hlt := hr.lt
  go_enter Try.func89, Try.ntmps89
  go_wp2_with fail
  refine (copyInts_any zs A c _ hz (by omega)).mono ?_
  rintro e w1 ⟨A1, c1, rfl, ho, hb1⟩
  replace hr := hr.below hb1 hlt
  have G := only_of_below hb1 (some rb)
  have hsz := hb1.size
  replace ho := ho.o
  clear hb1 hz
  go_wp2_with fail
  refine (pick_any _ rb M _ hr (by omega)).mono ?_
  rintro e w2 ⟨k, rfl, ha2, hb2, hr2, hg2⟩
  have hlo := ho.lt
  replace ho := ho.grown hg2 (by
    cases hA : blk A1 with
    | none => exact .inl rfl
    | some b => right; have := hlo b hA; simp; omega)
  replace G := only_trans G hg2
  have hsz2 := G.size
  have hlo2 := ho.lt
  clear hg2 hb2 hr hlo
  by_cases hk0 : k = 0
  · subst hk0
    go_wp2_with (at_builtin; refine wpList_pushO rfl (.tmp 14) (.tmp 16) 32 rfl i0 _ 8 Try.underlying32 hi0 hz0 hz1 hz2 rfl rfl (ho.alloc _) w2.heap.size _ rfl (cell_new _ _ _) rfl (by omega) (by omega) (by simp; omega) ?_; intro A3 c3 w3 ho3 hg3 hb3)
    have hr3 := (hr2.alloc _).grown hg3 (fun b hb => by have := hlo2 b hb; omega)
    have G3 := only_own (only_alloc G _) hg3 (fun b hb => (hlo2 b hb).1)
    go_ret
    exact ⟨_, A3, c3, by simp, ho3, by simp, hr3.mono (by omega), G3⟩
  have k0 : (k == 0) = false := by simpa using hk0
  by_cases hk1 : k = 1
  · subst hk1
    clear k0 hk0
    cases zs with
    | nil =>
      go_wp2_with fail
      go_ret
      exact ⟨[], A1, c1, rfl, ho, by simp, hr2.mono (by omega), G⟩
    | cons z zs =>
      obtain ⟨ht1, ht2⟩ := ho.tail
      have hl0 : (0 : Int) < (((z :: zs).length : Nat) : Int) := by simp
      obtain ⟨b6, o6, rfl, hc6⟩ := ho.rd.at (k := 0) (by simp)
      have hcap : zs.length + 1 ≤ c1 := by
        rcases ho with ⟨h, _⟩ | ⟨_, _, _, _, _, _, h, _⟩
        · cases h
        · simpa using h
      clear hc6 ho hlo2
      by_cases hc1 : c1 = 1
      · subst hc1
        rw [if_pos rfl] at ht1
        have Ht1 := Lib.hid ht1
        clear ht1
        go_wp2_with fail
        go_ret
        exact ⟨zs, some ⟨b6, o6, none⟩, 0, by simp <;> omega, Ht1.out, by simp <;> omega, hr2.mono (by omega), G⟩
      · rw [if_neg hc1] at ht1
        have Ht1 := Lib.hid ht1
        clear ht1
        go_wp2_with fail
        go_ret
        exact ⟨zs, some ⟨b6, o6 + 1, none⟩, c1 - 1, by simp, Ht1.out, by simp <;> omega, hr2.mono (by omega), G⟩
  have k1 : (k == 1) = false := by simpa using hk1
  by_cases hk2 : k = 2
  · subst hk2
    clear k0 hk0 k1 hk1
    by_cases hl : 0 < zs.length
    · have hl0 : (0 : Int) < ((zs.length : Nat) : Int) := by omega
      go_wp2_with fail
      refine (pick_any _ rb _ _ hr2 (by omega)).mono ?_
      rintro e w3 ⟨j, rfl, ha3, hb3, hr3, hg3⟩
      replace hb3 := hb3 (by omega)
      obtain ⟨j, rfl⟩ := Int.eq_ofNat_of_zero_le ha3
      replace ho := ho.grown hg3 (by
        cases hA : blk A1 with
        | none => exact .inl rfl
        | some b => right; have := hlo2 b hA; simp; omega)
      replace G := only_trans G hg3
      have hlo3 := ho.lt
      have hsz3 := G.size
      clear hg3 hlo2 hr2
      go_wp2_with fail
      refine (one_any _ rb _ _ 4 _ [-1, n, 0, 1] (hr3.alloc _) (by omega) (Blk.new _ _ _) (by have := hr3.lt; omega) rfl (by omega) (by omega)).mono ?_
      rintro e w4 ⟨x, rfl, hx, hr4, hg4⟩
      replace ho := (ho.alloc (.cells ([-1, n, 0, 1].map (Value.int .i64)).toArray 3)).grown hg4 (by
        cases hA : blk A1 with
        | none => exact .inl rfl
        | some b => right; have := hlo3 b hA; simp; omega)
      replace G := only_trans (only_alloc G (.cells ([-1, n, 0, 1].map (Value.int .i64)).toArray 3)) hg4
      obtain ⟨g, og, rfl, hc, hf, hlo4, hlt4⟩ := ho.at (k := j) (by omega)
      have hs := ho.set (k := j) (x := x) (by omega)
      have hlen := Lib.hid (show (zs.set j x).length = zs.length by simp)
      have Hs := Lib.hid hs
      clear hg4 hr3 ho hs hlo3 hx
      generalize zs[j] = y at hc
      simp only [fI] at hc
      go_wp2_with fail
      go_ret
      refine ⟨_, _, c1, by rw [hlen.out]; rfl, Hs.out, by show (zs.set j x).length ≤ _; rw [hlen.out]; omega, ?_, ?_⟩
      · exact (hr4.setCell (by simp; omega) _).mono (by omega)
      · exact only_own G (only_set _) (fun b hb => by simp at hb; omega)
    · have hl0 : ((zs.length : Nat) : Int) ≤ 0 := by omega
      clear hl
      go_wp2_with fail
      go_ret
      exact ⟨zs, A1, c1, rfl, ho, by omega, hr2.mono (by omega), G⟩
  · have k2 : (k == 2) = false := by simpa using hk2
    go_wp2_with fail
    go_ret
    exact ⟨zs, A1, c1, rfl, ho, by omega, hr2.mono (by omega), G⟩

end Go.Proofs.Ytcckipckgnkieaa
