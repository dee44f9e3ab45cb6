/-
  The generators of lists: copyInts, spoil, randomBools, anyLength.
-/
import Derived.Test.YtlafbfphegmbaaaRd
import Derived.Test.YtlafbfphegmbaaaLs
namespace Go.Proofs.Ytlafbfphegmbaaa
open Go.RowKit
set_option linter.unusedVariables false

theorem copyInts_any (xs : List Int) (A : Option Addr) (cap : Nat) (w : World) (hr : RdL fI w A xs) (hn : xs.length ≤ 2000000) :
    Calls Try.prog 49 #[.slice A xs.length cap] w (New fI 3 w xs) := by
  obtain ⟨i0, hi0, hz0, hz1, hz2⟩ := info_parts info_Int
  have h0 := OwnL.of_cap (lo := w.heap.size) fI (Blk.new w 3 #[]) (Nat.le_refl _) rfl (by simp [maxLen])
  go_enter Try.func49, Try.ntmps49
  go_wp2_with (at_builtin; refine wpList_appendL rfl (.tmp 3) (.tmp 4) 22 rfl i0 _ 8 Try.underlying22 hi0 hz0 hz1 hz2 rfl rfl h0 A xs cap rfl (hr.alloc _) (fun _ => rfl) (by simp; omega) (by omega) (by simp) ?_; intro A' c' w' ho hg hb)
  go_ret
  exact ⟨A', c', rfl, by simpa using ho, ((Below.refl _ _).alloc (Nat.le_refl _) _).grown hg (by simp) (fun k e => by simp at e; omega)⟩

/-- A generator hands back a new slice of which Pr holds. -/
def DrawL {α : Type} (f : α → Value) (T : TypeId) (w : World) (rb N : Nat) (Pr : List α → Prop) (e : Ending) (w' : World) : Prop :=
  ∃ xs A c, e = .returned (.slice A xs.length c) ∧ OwnO f w' w.heap.size T A c xs ∧ Pr xs ∧ Rdr w' rb N ∧ w.grownBy w' (some rb)

set_option maxHeartbeats 800000 in
theorem randomBools_any (w : World) (rb M : Nat) (n : Int) (hr : Rdr w rb M) (hM : M ≤ 900000000) (hn : n ≤ 1000) :
    Calls Try.prog 43 #[.pointer (some ⟨rb, 0, none⟩), .int .i64 n] w (DrawL fB 4 w rb (M + n.toNat + 1) (fun xs => xs.length = n.toNat)) := by
  obtain ⟨i0, hi0, hz0, hz1, hz2⟩ := info_parts info_Bool
  have h0 := (OwnL.of_cap (lo := w.heap.size) fB (Blk.new w 4 #[]) (Nat.le_refl _) rfl (by simp [maxLen])).o
  have hlt := hr.lt
  go_enter Try.func43, Try.ntmps43
  go_wp2_with fail
  refine (pick_any _ rb M _ (hr.alloc _) (by omega)).mono ?_
  rintro e w1 ⟨k1, rfl, ha1, hb1, hr1, hg1⟩
  have h1 := h0.grown hg1 (by simp; omega)
  have G1 := only_trans (only_alloc (only_refl w (some rb)) (.cells #[] 4)) hg1
  clear hg1 h0 hr hb1
  go_wp2_with fail
  go_loopw [5, 6, 7] (fun v5 v6 i wr => ∃ k : Nat, k ≤ n.toNat ∧ i = .int .i64 k ∧ (∃ t : Bool, v6 = .bool t) ∧ (∃ xs A c, v5 = .slice A xs.length c ∧ OwnO fB wr w.heap.size 4 A c xs ∧ xs.length = k) ∧ Rdr wr rb (M + k + 1) ∧ w.grownBy wr (some rb)) (fun _ _ i _ => n.toNat - (intOf i).toNat)
  case atStart => exact ⟨0, by omega, rfl, ⟨_, rfl⟩, ⟨[], _, _, rfl, h1, rfl⟩, hr1, G1⟩
  case round =>
    clear h1 G1 hr1
    obtain ⟨k, hk, rfl, ⟨t, rfl⟩, ⟨xs, A, c, rfl, ho, hxk⟩, hr1, G1⟩ := hrel
    have Hxk := Lib.hid hxk
    have hxk1 : xs.length ≤ k := by omega
    clear hxk
    by_cases hlt2 : k < n.toNat
    · have hlt3 : (k : Int) < n := by omega
      go_wp2_with fail
      refine (pick_any _ rb _ _ hr1 (by omega)).mono ?_
      rintro e w2 ⟨k2, rfl, ha2, hb2, hr2, hg2⟩
      have hsz := G1.size
      have hlo := ho.lt
      replace ho := ho.grown hg2 (by
        cases hA : blk A with
        | none => exact .inl rfl
        | some b => right; have := hlo b hA; simp; omega)
      replace G1 := only_trans G1 hg2
      have hsz2 := G1.size
      have hlo2 := ho.lt
      clear hg2 hb2 hr1 hlo
      by_cases hk2 : k2 = 0
      · subst hk2
        go_wp2_with (at_builtin; refine wpList_pushO rfl (.tmp 22) (.tmp 24) 23 rfl i0 _ 1 Try.underlying23 hi0 hz0 hz1 hz2 rfl rfl (ho.alloc _) w2.heap.size _ rfl (cell_new _ _ _) rfl (by omega) (by omega) (by simp; omega) ?_; intro A3 c3 w3 ho3 hg3 hb3)
        have hr3 := (hr2.alloc _).grown hg3 (fun b hb => by have := hlo2 b hb; omega)
        have G3 := only_own (only_alloc G1 _) hg3 (fun b hb => (hlo2 b hb).1)
        go_roundw
        case rel => exact ⟨k + 1, by omega, by go_num, ⟨_, rfl⟩, ⟨_, A3, c3, by simp, ho3, by have := Hxk.out; simp; omega⟩, hr3.mono (by omega), G3⟩
        case measure => simp [intOf]; omega
      · have hk3 : (k2 == 0) = false := by simpa using hk2
        clear hk2
        go_wp2_with (at_builtin; refine wpList_pushO rfl (.tmp 22) (.tmp 24) 23 rfl i0 _ 1 Try.underlying23 hi0 hz0 hz1 hz2 rfl rfl (ho.alloc _) w2.heap.size _ rfl (cell_new _ _ _) rfl (by omega) (by omega) (by simp; omega) ?_; intro A3 c3 w3 ho3 hg3 hb3)
        have hr3 := (hr2.alloc _).grown hg3 (fun b hb => by have := hlo2 b hb; omega)
        have G3 := only_own (only_alloc G1 _) hg3 (fun b hb => (hlo2 b hb).1)
        go_roundw
        case rel => exact ⟨k + 1, by omega, by go_num, ⟨_, rfl⟩, ⟨_, A3, c3, by simp, ho3, by have := Hxk.out; simp; omega⟩, hr3.mono (by omega), G3⟩
        case measure => simp [intOf]; omega
    · obtain rfl : k = n.toNat := by omega
      have hlt3 : n ≤ ((n.toNat : Nat) : Int) := by omega
      go_wp2_with fail
      go_ret
      exact ⟨xs, A, c, rfl, ho, Hxk.out, hr1, G1⟩

theorem anyLength_any (w : World) (rb M : Nat) (n : Int) (hr : Rdr w rb M) (hM : M ≤ 900000000) (hn : 0 ≤ n) (hn2 : n ≤ 1000) :
    Calls Try.prog 42 #[.pointer (some ⟨rb, 0, none⟩), .int .i64 n] w fun e w' => ∃ k : Int, e = .returned (.int .i64 k) ∧ 0 ≤ k ∧ k ≤ n + 31 ∧ Rdr w' rb (M + 1) ∧ w.grownBy w' (some rb) := by
  have hlt := hr.lt
  go_enter Try.func42, Try.ntmps42
  go_wp2_with fail
  refine (one_any _ rb M _ 8 _ [10, 20, 6, 30, 1, 0, n, n + 1] (hr.alloc _) (by omega) (Blk.new _ _ _) (by omega) rfl (by omega) (by omega)).mono ?_
  rintro e w5 ⟨x, rfl, hx, hr5, hg5⟩
  have hx : 0 ≤ x ∧ x ≤ n + 31 := by simp at hx; omega
  have G := only_trans (only_alloc (only_refl w (some rb)) _) hg5
  clear hg5
  go_wp2_with fail
  go_ret
  exact ⟨x, rfl, hx.1, hx.2, hr5, G⟩

set_option maxHeartbeats 1600000 in
theorem spoil_any (w : World) (rb M : Nat) (zs : List Int) (A : Option Addr) (c : Nat) (n : Int) (hr : Rdr w rb M) (hM : M ≤ 900000000) (hz : RdL fI w A zs) (hn : zs.length ≤ 2000) :
    Calls Try.prog 45 #[.pointer (some ⟨rb, 0, none⟩), .slice A zs.length c, .int .i64 n] w (DrawL fI 3 w rb (M + 3) (fun xs => xs.length ≤ zs.length + 1)) := by
  obtain ⟨i0, hi0, hz0, hz1, hz2⟩ := info_parts info_Int
  have hlt := hr.lt
  go_enter Try.func45, Try.ntmps45
  go_wp2_with fail
  refine (copyInts_any zs A c _ hz (by omega)).mono ?_
  rintro e w1 ⟨A1, c1, rfl, ho, hb1⟩
  replace hr := hr.below hb1 hlt
  have G := only_of_below hb1 (some rb)
  have hsz := hb1.size
  replace ho := ho.o
  clear hb1 hz
  go_wp2_with fail
  refine (pick_any _ rb M _ hr (by omega)).mono ?_
  rintro e w2 ⟨k, rfl, ha2, hb2, hr2, hg2⟩
  have hlo := ho.lt
  replace ho := ho.grown hg2 (by
    cases hA : blk A1 with
    | none => exact .inl rfl
    | some b => right; have := hlo b hA; simp; omega)
  replace G := only_trans G hg2
  have hsz2 := G.size
  have hlo2 := ho.lt
  clear hg2 hb2 hr hlo
  by_cases hk0 : k = 0
  · subst hk0
    go_wp2_with (at_builtin; refine wpList_pushO rfl (.tmp 14) (.tmp 16) 22 rfl i0 _ 8 Try.underlying22 hi0 hz0 hz1 hz2 rfl rfl (ho.alloc _) w2.heap.size _ rfl (cell_new _ _ _) rfl (by omega) (by omega) (by simp; omega) ?_; intro A3 c3 w3 ho3 hg3 hb3)
    have hr3 := (hr2.alloc _).grown hg3 (fun b hb => by have := hlo2 b hb; omega)
    have G3 := only_own (only_alloc G _) hg3 (fun b hb => (hlo2 b hb).1)
    go_ret
    exact ⟨_, A3, c3, by simp, ho3, by simp, hr3.mono (by omega), G3⟩
  have k0 : (k == 0) = false := by simpa using hk0
  by_cases hk1 : k = 1
  · subst hk1
    clear k0 hk0
    cases zs with
    | nil =>
      go_wp2_with fail
      go_ret
      exact ⟨[], A1, c1, rfl, ho, by simp, hr2.mono (by omega), G⟩
    | cons z zs =>
      obtain ⟨ht1, ht2⟩ := ho.tail
      have hl0 : (0 : Int) < (((z :: zs).length : Nat) : Int) := by simp
      obtain ⟨b6, o6, rfl, hc6⟩ := ho.rd.at (k := 0) (by simp)
      have hcap : zs.length + 1 ≤ c1 := by
        rcases ho with ⟨h, _⟩ | ⟨_, _, _, _, _, _, h, _⟩
        · cases h
        · simpa using h
      clear hc6 ho hlo2
      by_cases hc1 : c1 = 1
      · subst hc1
        rw [if_pos rfl] at ht1
        have Ht1 := Lib.hid ht1
        clear ht1
        go_wp2_with fail
        go_ret
        exact ⟨zs, some ⟨b6, o6, none⟩, 0, by simp <;> omega, Ht1.out, by simp <;> omega, hr2.mono (by omega), G⟩
      · rw [if_neg hc1] at ht1
        have Ht1 := Lib.hid ht1
        clear ht1
        go_wp2_with fail
        go_ret
        exact ⟨zs, some ⟨b6, o6 + 1, none⟩, c1 - 1, by simp, Ht1.out, by simp <;> omega, hr2.mono (by omega), G⟩
  have k1 : (k == 1) = false := by simpa using hk1
  by_cases hk2 : k = 2
  · subst hk2
    clear k0 hk0 k1 hk1
    by_cases hl : 0 < zs.length
    · have hl0 : (0 : Int) < ((zs.length : Nat) : Int) := by omega
      go_wp2_with fail
      refine (pick_any _ rb _ _ hr2 (by omega)).mono ?_
      rintro e w3 ⟨j, rfl, ha3, hb3, hr3, hg3⟩
      replace hb3 := hb3 (by omega)
      obtain ⟨j, rfl⟩ := Int.eq_ofNat_of_zero_le ha3
      replace ho := ho.grown hg3 (by
        cases hA : blk A1 with
        | none => exact .inl rfl
        | some b => right; have := hlo2 b hA; simp; omega)
      replace G := only_trans G hg3
      have hlo3 := ho.lt
      have hsz3 := G.size
      clear hg3 hlo2 hr2
      go_wp2_with fail
      refine (one_any _ rb _ _ 4 _ [-1, n, 0, 1] (hr3.alloc _) (by omega) (Blk.new _ _ _) (by have := hr3.lt; omega) rfl (by omega) (by omega)).mono ?_
      rintro e w4 ⟨x, rfl, hx, hr4, hg4⟩
      replace ho := (ho.alloc (.cells ([-1, n, 0, 1].map (Value.int .i64)).toArray 3)).grown hg4 (by
        cases hA : blk A1 with
        | none => exact .inl rfl
        | some b => right; have := hlo3 b hA; simp; omega)
      replace G := only_trans (only_alloc G (.cells ([-1, n, 0, 1].map (Value.int .i64)).toArray 3)) hg4
      obtain ⟨g, og, rfl, hc, hf, hlo4, hlt4⟩ := ho.at (k := j) (by omega)
      have hs := ho.set (k := j) (x := x) (by omega)
      have hlen := Lib.hid (show (zs.set j x).length = zs.length by simp)
      have Hs := Lib.hid hs
      clear hg4 hr3 ho hs hlo3 hx
      generalize zs[j] = y at hc
      simp only [fI] at hc
      go_wp2_with fail
      go_ret
      refine ⟨_, _, c1, by rw [hlen.out]; rfl, Hs.out, by show (zs.set j x).length ≤ _; rw [hlen.out]; omega, ?_, ?_⟩
      · exact (hr4.setCell (by simp; omega) _).mono (by omega)
      · exact only_own G (only_set _) (fun b hb => by simp at hb; omega)
    · have hl0 : ((zs.length : Nat) : Int) ≤ 0 := by omega
      clear hl
      go_wp2_with fail
      go_ret
      exact ⟨zs, A1, c1, rfl, ho, by omega, hr2.mono (by omega), G⟩
  · have k2 : (k == 2) = false := by simpa using hk2
    go_wp2_with fail
    go_ret
    exact ⟨zs, A1, c1, rfl, ho, by omega, hr2.mono (by omega), G⟩

/-- What the generators of queues hand back. -/
def DrawQ (w : World) (e : Ending) (w' : World) : Prop :=
  ∃ ar gr A B c d, e = .returned (.tuple #[.slice A ar.length c, .slice B gr.length d]) ∧ OwnO fI w' w.heap.size 3 A c ar ∧ OwnO fB w' w.heap.size 4 B d gr ∧ ar.length ≤ 1000 ∧ gr.length ≤ 1000 ∧ Sep A B ∧ Below w.heap.size w w'

set_option maxHeartbeats 1600000 in
theorem drawQ_any (w : World) (A : Option Addr) (len cap : Nat) (h : Bytes w A len) (hc : len ≤ cap) :
    Calls Try.prog 26 #[.slice A len cap] w (DrawQ w) := by
  obtain ⟨i0, hi0, hz0, hz1, hz2⟩ := info_parts info_Int
  go_enter Try.func26, Try.ntmps26
  go_wp2_with fail
  refine (newReader_any _ A len cap h hc).mono ?_
  rintro e w1 ⟨rb, rfl, hrb, hr1, hb1⟩
  have hlt1 := hr1.lt
  have hsz1 := hb1.size
  clear h
  go_wp2_with fail
  refine (anyLength_any _ rb 0 150 hr1 (by omega) (by omega) (by omega)).mono ?_
  rintro e w2 ⟨n, rfl, hn0, hn1, hr2, hg2⟩
  have G := hg2
  have hsz2 := hg2.size
  clear hg2 hr1
  go_wp2_with fail
  refine (randomBools_any _ rb _ n hr2 (by omega) (by omega)).mono ?_
  rintro e w3 ⟨gr, B, d, rfl, hB, hgl, hr3, hg3⟩
  replace G := only_trans G hg3
  have hgl2 : gr.length ≤ 181 := by omega
  have hszB := G.size
  have hsep0 : ∀ b, blk B = some b → b < w3.heap.size := fun b hb => (hB.lt b hb).2
  clear hg3 hr2 hgl
  replace hB := hB.alloc (.cells #[] 3)
  have hA := (OwnL.of_cap (lo := w3.heap.size) fI (Blk.new w3 3 #[]) (Nat.le_refl _) rfl (by simp [maxLen])).o
  go_wp2_with fail
  go_loopw [7, 8] (fun v7 i wr => ∃ k : Nat, k ≤ n.toNat ∧ i = .int .i64 k ∧ (∃ xs A1 c1, v7 = .slice A1 xs.length c1 ∧ OwnO fI wr w3.heap.size 3 A1 c1 xs ∧ xs.length = k) ∧ OwnO fB wr w2.heap.size 4 B d gr ∧ Rdr wr rb (n.toNat + 2 + k) ∧ w1.grownBy wr (some rb) ∧ w3.heap.size ≤ wr.heap.size) (fun _ i _ => n.toNat - (intOf i).toNat)
  case atStart => exact ⟨0, by omega, rfl, ⟨[], _, _, rfl, hA, rfl⟩, hB, (hr3.alloc _).mono (by omega), only_alloc G _, by simp⟩
  case round =>
    have hlt3 := hr3.lt
    clear hA hB hr3 G
    obtain ⟨k, hk, rfl, ⟨xs, A1, c1, rfl, hA, hxk⟩, hB, hr3, G, hsz⟩ := hrel
    have Hxk := Lib.hid hxk
    have hxk1 : xs.length ≤ k := by omega
    clear hxk
    by_cases hlt2 : k < n.toNat
    · have hlt4 : (k : Int) < n := by omega
      go_wp2_with fail
      refine (one_any _ rb _ _ 7 _ [0, 0, 1, 0, 1, 2, 3] (hr3.alloc _) (by omega) (Blk.new _ _ _) (by have := hr3.lt; omega) rfl (by omega) (by omega)).mono ?_
      rintro e w4 ⟨x, rfl, hx, hr4, hg4⟩
      have hA4 := (hA.alloc (.cells ([0, 0, 1, 0, 1, 2, 3].map (Value.int .i64)).toArray 3)).grown hg4 (by
        cases hA' : blk A1 with
        | none => exact .inl rfl
        | some b => right; have := hA.lt b hA'; simp; omega)
      have hB4 := (hB.alloc (.cells ([0, 0, 1, 0, 1, 2, 3].map (Value.int .i64)).toArray 3)).grown hg4 (by
        cases hB' : blk B with
        | none => exact .inl rfl
        | some b => right; have := hB.lt b hB'; simp; omega)
      have G4 := only_trans (only_alloc G (.cells ([0, 0, 1, 0, 1, 2, 3].map (Value.int .i64)).toArray 3)) hg4
      have hsz4 := hg4.size
      have hsz5 : w3.heap.size ≤ w4.heap.size := by simp at hsz4; omega
      have hA4l := hA4.lt
      clear hx hg4 hA hB G hr3
      go_wp2_with (at_builtin; refine wpList_pushO rfl (.tmp 22) (.tmp 26) 22 rfl i0 _ 8 Try.underlying22 hi0 hz0 hz1 hz2 rfl rfl (hA4.alloc _) w4.heap.size _ rfl (cell_new _ _ _) rfl (by omega) (by omega) (by simp; omega) ?_; intro A3 c3 w5 ho3 hg3 hb3)
      have hr5 := (hr4.alloc _).grown hg3 (fun b hb => by have := hA4l b hb; omega)
      have G5 := only_own (only_alloc G4 _) hg3 (fun b hb => by have := hA4l b hb; omega)
      have hB5 := (hB4.alloc _).grown hg3 (by
        cases hB' : blk B with
        | none => exact .inl rfl
        | some b =>
          right
          intro e
          have h1 := hsep0 b hB'
          have h2 := hA4l b (by rw [← e])
          omega)
      have hsz6 := hg3.size
      go_roundw
      case rel => exact ⟨k + 1, by omega, by go_num, ⟨_, A3, c3, by simp, ho3, by have := Hxk.out; simp; omega⟩, hB5, hr5.mono (by omega), G5, by simp at hsz6; omega⟩
      case measure => simp [intOf]; omega
    · obtain rfl : k = n.toNat := by omega
      have hlt4 : n ≤ ((n.toNat : Nat) : Int) := by omega
      have hszW := G.size
      go_wp2_with fail
      refine (spoil_any _ rb _ xs A1 c1 4 hr3 (by omega) hA.rd (by omega)).mono ?_
      rintro e w5 ⟨ys, A5, c5, rfl, h5, hl5, hr5, hg5⟩
      have hB5 := hB.grown hg5 (by
        cases hB' : blk B with
        | none => exact .inl rfl
        | some b => right; have := hB.lt b hB'; simp; omega)
      have G5 := only_trans G hg5
      have hs5 : Sep A5 B := fun b h1 h2 => by
        have := hsep0 b h2
        have := (h5.lt b h1).1
        omega
      clear hg5
      go_wp2_with fail
      go_ret2
      refine ⟨ys, gr, A5, B, c5, d, rfl, ?_, ?_, by omega, by omega, hs5, ?_⟩
      · exact h5.mono (by omega)
      · exact hB5.mono (by omega)
      · exact below_of_only hb1 G5 (by omega)
theorem drawQ2_any (w : World) (A : Option Addr) (len cap : Nat) (h : Bytes w A len) (hc : len ≤ cap) : Calls Try.prog 30 #[.slice A len cap] w (DrawQ w) := by
  go_enter Try.func30, Try.ntmps30
  go_wp2_with fail
  refine (drawQ_any _ A len cap h hc).mono ?_
  rintro e w1 ⟨ar, gr, A1, B1, c1, d1, rfl, h1, h2, h3, h4, h5, h6⟩
  go_wp2_with fail
  go_ret2
  exact ⟨ar, gr, A1, B1, c1, d1, rfl, h1, h2, h3, h4, h5, h6⟩
theorem drawQ3_any (w : World) (A : Option Addr) (len cap : Nat) (h : Bytes w A len) (hc : len ≤ cap) : Calls Try.prog 31 #[.slice A len cap] w (DrawQ w) := by
  go_enter Try.func31, Try.ntmps31
  go_wp2_with fail
  refine (drawQ_any _ A len cap h hc).mono ?_
  rintro e w1 ⟨ar, gr, A1, B1, c1, d1, rfl, h1, h2, h3, h4, h5, h6⟩
  go_wp2_with fail
  go_ret2
  exact ⟨ar, gr, A1, B1, c1, d1, rfl, h1, h2, h3, h4, h5, h6⟩
theorem drawQ4_any (w : World) (A : Option Addr) (len cap : Nat) (h : Bytes w A len) (hc : len ≤ cap) : Calls Try.prog 32 #[.slice A len cap] w (DrawQ w) := by
  go_enter Try.func32, Try.ntmps32
  go_wp2_with fail
  refine (drawQ_any _ A len cap h hc).mono ?_
  rintro e w1 ⟨ar, gr, A1, B1, c1, d1, rfl, h1, h2, h3, h4, h5, h6⟩
  go_wp2_with fail
  go_ret2
  exact ⟨ar, gr, A1, B1, c1, d1, rfl, h1, h2, h3, h4, h5, h6⟩
end Go.Proofs.Ytlafbfphegmbaaa
