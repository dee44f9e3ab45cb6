/-
  The generators of streets and offsets.
-/
import Derived.Test.YtmnapeefclkldaaStWave
import Derived.Test.YtmnapeefclkldaaDrList
import Derived.Test.YtmnapeefclkldaaRegM
namespace Go.Proofs.Ytmnapeefclkldaa
open Go.RowKit
set_option linter.unusedVariables false

theorem or_of_lt {A : Option Addr} {rb n : Nat} (h : ∀ b, blk A = some b → n ≤ b) (hr : rb < n) : blk A = none ∨ blk A ≠ some rb := by
  cases hA : blk A with
  | none => exact .inl rfl
  | some b => right; have := h b hA; simp; omega
theorem rdr_set3 {w : World} {rb M g : Nat} {v0 v1 v2 : Value} (h : Rdr w rb M) (hg : rb < g) : Rdr (set3 w g v0 v1 v2) rb M :=
  ((h.setCell (p := ⟨g, 0, none⟩) hg v0).setCell (p := ⟨g, 1, none⟩) hg v1).setCell (p := ⟨g, 2, none⟩) hg v2
theorem only_into3 {a w : World} {rb g : Nat} {v0 v1 v2 : Value} (h : a.grownBy w (some rb)) (hg : a.heap.size ≤ g) : a.grownBy (set3 w g v0 v1 v2) (some rb) :=
  only_setCell (only_setCell (only_setCell h (p := ⟨g, 0, none⟩) (.inr hg) v0) (p := ⟨g, 1, none⟩) (.inr hg) v1) (p := ⟨g, 2, none⟩) (.inr hg) v2

/-- A street that was drawn. -/
def DrawT (w : World) (rb N : Nat) (e : Ending) (w' : World) : Prop :=
  ∃ s G T c d, e = .returned (strV s G T c d) ∧ OwnO fI w' w.heap.size 3 G c s.gr ∧ OwnO fI w' w.heap.size 3 T d s.tr ∧ s.gr.length ≤ 10 ∧ s.tr.length ≤ 10 ∧ Rdr w' rb N ∧ w.grownBy w' (some rb)

set_option maxHeartbeats 6400000 in
theorem anyStreet_any (w : World) (rb M : Nat) (hr : Rdr w rb M) (hM : M ≤ 800000000) :
    Calls Try.prog 49 #[.pointer (some ⟨rb, 0, none⟩)] w (DrawT w rb (M + 14)) := by
  obtain ⟨i0, hi0, hz0, hz1, hz2⟩ := info_parts info_Int
  have hlt := hr.lt
  have bR := Blk.new w 27 strZ
  have hr0 := hr.alloc (.cells strZ 27)
  have G0 := only_alloc (only_refl w (some rb)) (.cells strZ 27)
  have z0 : (w.alloc (.cells strZ 27)).heap.size = w.heap.size + 1 := by simp
  have hbk0 := Blk.new2 w (.cells strZ 27) 3 ([10, 12, 8, 20, 5, 30, 1].map (Value.int .i64)).toArray
  go_enter Try.func49, Try.ntmps49
  go_wp2_with fail
  generalize w.alloc (.cells strZ 27) = wa at *
  obtain ⟨gR, hgR⟩ : ∃ gR, gR = w.heap.size := ⟨_, rfl⟩
  rw [← hgR] at bR hbk0
  simp only [← hgR]
  have hgRa : w.heap.size ≤ gR := by omega
  have hgRr : rb < gR := by omega
  clear hgR
  refine (one_any _ rb M _ 7 _ [10, 12, 8, 20, 5, 30, 1] (hr0.alloc _) (by omega) hbk0 (by omega) rfl (by omega) (by omega)).mono ?_
  rintro e w1 ⟨cy, rfl, hcy, hr1, hg1⟩
  replace hcy : 0 ≤ cy ∧ cy ≤ 31 := by simp at hcy; omega
  replace bR := (bR.alloc (.cells ([10, 12, 8, 20, 5, 30, 1].map (Value.int .i64)).toArray 3)).grown hg1 (fun e => by injection e with e; omega)
  have G1 := only_trans (only_alloc G0 (.cells ([10, 12, 8, 20, 5, 30, 1].map (Value.int .i64)).toArray 3)) hg1
  have zR := bR.lt
  clear hg1 hr0 G0 hr z0 hbk0
  obtain ⟨gs, hgs⟩ : ∃ gs, gs = w1.heap.size := ⟨_, rfl⟩
  have bs := (((Blk.new w1 27 #[.int .i64 cy, .slice none 0 0, .slice none 0 0]).alloc (.cells #[] 3)).alloc (.cells #[] 3)).alloc (.cells ([2, 3, 2, 1, 4, 3].map (Value.int .i64)).toArray 3)
  replace bR := (((bR.alloc (.cells #[.int .i64 cy, .slice none 0 0, .slice none 0 0] 27)).alloc (.cells #[] 3)).alloc (.cells #[] 3)).alloc (.cells ([2, 3, 2, 1, 4, 3].map (Value.int .i64)).toArray 3)
  have hA := ((OwnL.of_cap (lo := gs + 1) fI (Blk.new2 w1 (.cells #[.int .i64 cy, .slice none 0 0, .slice none 0 0] 27) 3 #[]) (by omega) rfl (by simp [maxLen])).o.alloc (.cells #[] 3)).alloc (.cells ([2, 3, 2, 1, 4, 3].map (Value.int .i64)).toArray 3)
  have hC := (OwnL.of_cap (lo := gs + 1) fI (Blk.new3 w1 (.cells #[.int .i64 cy, .slice none 0 0, .slice none 0 0] 27) (.cells #[] 3) 3 #[]) (by omega) rfl (by simp [maxLen])).o.alloc (.cells ([2, 3, 2, 1, 4, 3].map (Value.int .i64)).toArray 3)
  have hAC : Sep (some (⟨w1.heap.size + 1, 0, none⟩ : Addr)) (some (⟨w1.heap.size + 1 + 1, 0, none⟩ : Addr)) := fun b h1 h2 => by simp at h1 h2; omega
  have hbk : Blk ((((w1.alloc (.cells #[.int .i64 cy, .slice none 0 0, .slice none 0 0] 27)).alloc (.cells #[] 3)).alloc (.cells #[] 3)).alloc (.cells ([2, 3, 2, 1, 4, 3].map (Value.int .i64)).toArray 3)) (w1.heap.size + 1 + 1 + 1) 3 ([2, 3, 2, 1, 4, 3].map (Value.int .i64)).toArray := by
    have := Blk.new (((w1.alloc (.cells #[.int .i64 cy, .slice none 0 0, .slice none 0 0] 27)).alloc (.cells #[] 3)).alloc (.cells #[] 3)) 3 ([2, 3, 2, 1, 4, 3].map (Value.int .i64)).toArray
    simpa using this
  have hr2 := (((hr1.alloc (.cells #[.int .i64 cy, .slice none 0 0, .slice none 0 0] 27)).alloc (.cells #[] 3)).alloc (.cells #[] 3)).alloc (.cells ([2, 3, 2, 1, 4, 3].map (Value.int .i64)).toArray 3)
  have G2 := only_alloc (only_alloc (only_alloc (only_alloc G1 (.cells #[.int .i64 cy, .slice none 0 0, .slice none 0 0] 27)) (.cells #[] 3)) (.cells #[] 3)) (.cells ([2, 3, 2, 1, 4, 3].map (Value.int .i64)).toArray 3)
  clear hr1 G1
  go_wp2_with fail
  have hlow : w.heap.size ≤ gs := by have := hgRa; omega
  have hrs : rb < gs := by omega
  have hRs : gR < gs := by omega
  rw [← hgs] at hA hC hAC hbk bs
  simp only [← hgs]
  clear hgs
  refine (one_any _ rb _ _ 6 _ [2, 3, 2, 1, 4, 3] hr2 (by omega) hbk (by omega) rfl (by omega) (by omega)).mono ?_
  rintro e w2 ⟨n, rfl, hn, hr3, hg3⟩
  replace hn : 0 ≤ n ∧ n ≤ 4 := by simp at hn; omega
  replace bs := bs.grown hg3 (fun e => by injection e with e; omega)
  replace bR := bR.grown hg3 (fun e => by injection e with e; omega)
  replace hA := hA.grown hg3 (or_of_lt (fun b hb => (hA.lt b hb).1) (by omega))
  replace hC := hC.grown hg3 (or_of_lt (fun b hb => (hC.lt b hb).1) (by omega))
  have G3 := only_trans G2 hg3
  clear hg3 G2 hr2 hbk
  obtain ⟨n, rfl⟩ := Int.eq_ofNat_of_zero_le hn.1
  go_wp2_with fail
  go_loopw [4, 5, 6] (fun v4 v5 i wr => ∃ m : Nat, i = .int .i64 m ∧ m ≤ 4 ∧ (∃ xs A1 c1 ys B1 d1, v4 = .slice A1 xs.length c1 ∧ v5 = .slice B1 ys.length d1 ∧ OwnO fI wr (gs + 1) 3 A1 c1 xs ∧ OwnO fI wr (gs + 1) 3 B1 d1 ys ∧ Sep A1 B1 ∧ xs.length + m ≤ 4 ∧ ys.length + m ≤ 4) ∧ Blk wr gs 27 #[.int .i64 cy, .slice none 0 0, .slice none 0 0] ∧ Blk wr gR 27 strZ ∧ Rdr wr rb (M + 2 + 2 * (4 - m)) ∧ w.grownBy wr (some rb)) (fun _ _ i _ => (intOf i).toNat)
  case atStart => exact ⟨n, rfl, by omega, ⟨[], _, _, [], _, _, rfl, rfl, hA, hC, hAC, by simp; omega, by simp; omega⟩, bs, bR, hr3.mono (by omega), G3⟩
  case round =>
    clear hA hC hAC hr3 G3 bs bR
    obtain ⟨m, rfl, hm, ⟨xs, A1, c1, ys, B1, d1, rfl, rfl, hA, hC, hAC, hxl, hyl⟩, bs, bR, hr, G⟩ := hrel
    have hAl := hA.lt
    have hCl := hC.lt
    have hzG := G.size
    have hrl := hr.lt
    have hsl := bs.lt
    by_cases hm0 : 0 < m
    · have k0 := bs.cell 0
      simp at k0
      go_wp2_with fail
      refine (pick_any _ rb _ _ hr (by omega)).mono ?_
      rintro e w4 ⟨x, rfl, hx0, -, hr4, hg4⟩
      replace bs := bs.grown hg4 (fun e => by injection e with e; omega)
      replace bR := bR.grown hg4 (fun e => by injection e with e; omega)
      replace hA := hA.grown hg4 (or_of_lt (fun b hb => (hAl b hb).1) (by omega))
      replace hC := hC.grown hg4 (or_of_lt (fun b hb => (hCl b hb).1) (by omega))
      replace G := only_trans G hg4
      have hAl4 := hA.lt
      have hCl4 := hC.lt
      have hz4 := G.size
      have hsl4 := bs.lt
      clear hg4 hr k0 hAl hCl
      by_cases hm1 : 1 < m
      · go_wp2_with (at_builtin; refine wpList_pushO rfl (.tmp 20) (.tmp 26) 22 rfl i0 _ 8 Try.underlying22 hi0 hz0 hz1 hz2 rfl rfl (hA.alloc (.cells #[.int .i64 x] 3)) w4.heap.size _ rfl (cell_new _ _ _) rfl (by omega) (by omega) (by simp; omega) ?_; intro A3 c3 w5 ho3 hg3 hb3)
        have bs5 := (bs.alloc (.cells #[.int .i64 x] 3)).grown hg3 (fun e => by have := (hAl4 _ e.symm).1; omega)
        have bR5 := (bR.alloc (.cells #[.int .i64 x] 3)).grown hg3 (fun e => by have := (hAl4 _ e.symm).1; omega)
        have hr5 := (hr4.alloc (.cells #[.int .i64 x] 3)).grown hg3 (fun b hb => by have := hAl4 b hb; omega)
        have G5 := only_own (only_alloc G (.cells #[.int .i64 x] 3)) hg3 (fun b hb => by have := hAl4 b hb; omega)
        have hC5 := (hC.alloc (.cells #[.int .i64 x] 3)).grown hg3 hAC.or
        have hz5 := G5.size
        have hAC5 := hAC.push (n := w4.heap.size) (fun b hb => (hCl4 b hb).2) (hb3.imp id fun h b hb => by have := h b hb; simp at this; omega)
        have hAl5 := ho3.lt
        have hCl5 := hC5.lt
        clear hA hC hAC hr4 G hg3 hb3 bs bR hAl4 hCl4
        refine (pick_any _ rb _ _ hr5 (by omega)).mono ?_
        rintro e w6 ⟨y, rfl, hy0, -, hr6, hg6⟩
        have bs6 := bs5.grown hg6 (fun e => by injection e with e; omega)
        have bR6 := bR5.grown hg6 (fun e => by injection e with e; omega)
        have hA6 := ho3.grown hg6 (or_of_lt (fun b hb => (hAl5 b hb).1) (by omega))
        have hC6 := hC5.grown hg6 (or_of_lt (fun b hb => (hCl5 b hb).1) (by omega))
        have G6 := only_trans G5 hg6
        have hAl6 := hA6.lt
        have hCl6 := hC6.lt
        have hz6 := G6.size
        have hsl6 := bs6.lt
        clear hg6 ho3 hC5 G5 hr5 hAl5 hCl5 bs5 bR5
        go_wp2_with (at_builtin; refine wpList_pushO rfl (.tmp 30) (.tmp 33) 22 rfl i0 _ 8 Try.underlying22 hi0 hz0 hz1 hz2 rfl rfl (hC6.alloc (.cells #[.int .i64 y] 3)) w6.heap.size _ rfl (cell_new _ _ _) rfl (by omega) (by omega) (by simp; omega) ?_; intro B7 d7 w7 ho7 hg7 hb7)
        have bs7 := (bs6.alloc (.cells #[.int .i64 y] 3)).grown hg7 (fun e => by have := (hCl6 _ e.symm).1; omega)
        have bR7 := (bR6.alloc (.cells #[.int .i64 y] 3)).grown hg7 (fun e => by have := (hCl6 _ e.symm).1; omega)
        have hr7 := (hr6.alloc (.cells #[.int .i64 y] 3)).grown hg7 (fun b hb => by have := hCl6 b hb; omega)
        have G7 := only_own (only_alloc G6 (.cells #[.int .i64 y] 3)) hg7 (fun b hb => by have := hCl6 b hb; omega)
        have hA7 := (hA6.alloc (.cells #[.int .i64 y] 3)).grown hg7 hAC5.symm.or
        have hAC7 := (hAC5.symm.push (n := w6.heap.size) (fun b hb => (hAl6 b hb).2) (hb7.imp id fun h b hb => by have := h b hb; simp at this; omega)).symm
        go_roundw
        case rel => exact ⟨m - 1, by congr 1; omega, by omega, ⟨_, A3, c3, _, B7, d7, by simp, by simp, hA7, ho7, hAC7, by simp; omega, by simp; omega⟩, bs7, bR7, hr7.mono (by omega), G7⟩
        case measure => simp [intOf]; omega
      · obtain rfl : m = 1 := by omega
        have hcast : ((1 : Nat) : Int) = 1 := rfl
        simp only [hcast]
        go_wp2_with (at_builtin; refine wpList_pushO rfl (.tmp 20) (.tmp 26) 22 rfl i0 _ 8 Try.underlying22 hi0 hz0 hz1 hz2 rfl rfl (hA.alloc (.cells #[.int .i64 x] 3)) w4.heap.size _ rfl (cell_new _ _ _) rfl (by omega) (by omega) (by simp; omega) ?_; intro A3 c3 w5 ho3 hg3 hb3)
        have bs5 := (bs.alloc (.cells #[.int .i64 x] 3)).grown hg3 (fun e => by have := (hAl4 _ e.symm).1; omega)
        have bR5 := (bR.alloc (.cells #[.int .i64 x] 3)).grown hg3 (fun e => by have := (hAl4 _ e.symm).1; omega)
        have hr5 := (hr4.alloc (.cells #[.int .i64 x] 3)).grown hg3 (fun b hb => by have := hAl4 b hb; omega)
        have G5 := only_own (only_alloc G (.cells #[.int .i64 x] 3)) hg3 (fun b hb => by have := hAl4 b hb; omega)
        have hC5 := (hC.alloc (.cells #[.int .i64 x] 3)).grown hg3 hAC.or
        have hAC5 := hAC.push (n := w4.heap.size) (fun b hb => (hCl4 b hb).2) (hb3.imp id fun h b hb => by have := h b hb; simp at this; omega)
        go_roundw
        case rel => exact ⟨0, rfl, by omega, ⟨_, A3, c3, _, B1, d1, by simp, rfl, ho3, hC5, hAC5, by simp; omega, by omega⟩, bs5, bR5, hr5.mono (by omega), G5⟩
        case measure => simp [intOf]
    · obtain rfl : m = 0 := by omega
      have hcast : ((0 : Nat) : Int) = 0 := rfl
      simp only [hcast]
      have f0 := bs.cell 0
      have f1 := bs.cell 1
      have f2 := bs.cell 2
      have ff := bs.frozen
      simp at f0 f1 f2
      go_wp2_with fail
      clear f0 f1 f2 ff
      have nAs : ∀ b, blk A1 = some b → b ≠ gs := fun b h => by have := (hAl b h).1; omega
      have nBs : ∀ b, blk B1 = some b → b ≠ gs := fun b h => by have := (hCl b h).1; omega
      have nA : ∀ b, blk A1 = some b → b ≠ gR := fun b h => by have := (hAl b h).1; omega
      have nB : ∀ b, blk B1 = some b → b ≠ gR := fun b h => by have := (hCl b h).1; omega
      replace bs := (bs.set_ 1 (.slice A1 xs.length c1)).set_ 2 (.slice B1 ys.length d1)
      replace bR := (bR.far (p := ⟨gs, 1, none⟩) (by simp; omega) (.slice A1 xs.length c1)).far (p := ⟨gs, 2, none⟩) (by simp; omega) (.slice B1 ys.length d1)
      replace hA := own_set1 (k := 2) (.slice B1 ys.length d1) (own_set1 (k := 1) (.slice A1 xs.length c1) hA nAs) nAs
      replace hC := own_set1 (k := 2) (.slice B1 ys.length d1) (own_set1 (k := 1) (.slice A1 xs.length c1) hC nBs) nBs
      replace hr := (hr.setCell (p := ⟨gs, 1, none⟩) (by simp; omega) (.slice A1 xs.length c1)).setCell (p := ⟨gs, 2, none⟩) (by simp; omega) (.slice B1 ys.length d1)
      replace G := only_setCell (only_setCell G (p := ⟨gs, 1, none⟩) (.inr (by simp; omega)) (.slice A1 xs.length c1)) (p := ⟨gs, 2, none⟩) (.inr (by simp; omega)) (.slice B1 ys.length d1)
      clear hAl hCl hzG hrl hsl
      generalize (wr.setCell ⟨gs, 1, none⟩ (.slice A1 xs.length c1)).setCell ⟨gs, 2, none⟩ (.slice B1 ys.length d1) = wq at *
      simp at bs
      have hAl := hA.lt
      have hCl := hC.lt
      have hzG := G.size
      have hrl := hr.lt
      have hsl := bs.lt
      refine (pick_any _ rb _ _ hr (by omega)).mono ?_
      rintro e w4 ⟨k, rfl, hk0, -, hr4, hg4⟩
      replace bs := bs.grown hg4 (fun e => by injection e with e; omega)
      replace bR := bR.grown hg4 (fun e => by injection e with e; omega)
      replace hA := hA.grown hg4 (or_of_lt (fun b hb => (hAl b hb).1) (by omega))
      replace hC := hC.grown hg4 (or_of_lt (fun b hb => (hCl b hb).1) (by omega))
      replace G := only_trans G hg4
      clear hg4 hr hAl hCl hzG hrl hsl
      have hAl := hA.lt
      have hCl := hC.lt
      have hzG := G.size
      have hrl := hr4.lt
      have hsl := bs.lt
      have bs2 := bs
      have bR2 := bR
      by_cases hk0 : k = 0
      · subst hk0
        clear bs2 bR2
        go_wp2_with fail
        refine (one_any _ rb _ w4.heap.size 3 _ [0, 30, 31] (hr4.alloc _) (by omega) (Blk.new _ _ _) (by omega) rfl (by omega) (by omega)).mono ?_
        rintro e w5 ⟨cz, rfl, -, hr5, hg5⟩
        have bs2 := (bs.alloc (.cells ([0, 30, 31].map (Value.int .i64)).toArray 3)).grown hg5 (fun e => by injection e with e; omega)
        have bR2 := (bR.alloc (.cells ([0, 30, 31].map (Value.int .i64)).toArray 3)).grown hg5 (fun e => by injection e with e; omega)
        have HA0 := (hA.alloc (.cells ([0, 30, 31].map (Value.int .i64)).toArray 3)).grown hg5 (or_of_lt (fun b hb => (hAl b hb).1) (by omega))
        have HB0 := (hC.alloc (.cells ([0, 30, 31].map (Value.int .i64)).toArray 3)).grown hg5 (or_of_lt (fun b hb => (hCl b hb).1) (by omega))
        have HG0 := only_trans (only_alloc G (.cells ([0, 30, 31].map (Value.int .i64)).toArray 3)) hg5
        have HA := Lib.hid (own_set1 (k := 0) (.int .i64 cz) HA0 nAs)
        have HB := Lib.hid (own_set1 (k := 0) (.int .i64 cz) HB0 nBs)
        have Hr := Lib.hid (hr5.setCell (p := ⟨gs, 0, none⟩) (by simp; omega) (.int .i64 cz))
        have HG := Lib.hid (only_setCell HG0 (p := ⟨gs, 0, none⟩) (.inr (by simp; omega)) (.int .i64 cz))
        have hne : gR ≠ gs := by omega
        have e0 := bR2.cell 0
        have e1 := bR2.cell 1
        have e2 := bR2.cell 2
        have ef := bR2.frozen
        simp at e0 e1 e2
        have f0 := bs2.cell 0
        have f1 := bs2.cell 1
        have f2 := bs2.cell 2
        have ff := bs2.frozen
        simp at f0 f1 f2
        clear hg5 HA0 HB0 HG0 hr5 hr4 G hA hC bs bR hAl hCl nAs nBs
        clear bR2 bs2
        go_wp2_with fail
        refine bodyPost_ret (v := strV ⟨cz, xs, ys⟩ A1 B1 c1 d1) (by simp [results, Try.results49, go_sem, e0, e1, e2]) rfl ⟨⟨cz, xs, ys⟩, A1, B1, c1, d1, rfl, ?_, ?_, by simp; omega, by simp; omega, ?_, ?_⟩
        · exact own_set3 (HA.out.mono (by omega)) (fun b h => nA b h)
        · exact own_set3 (HB.out.mono (by omega)) (fun b h => nB b h)
        · exact rdr_set3 (Hr.out.mono (by omega)) hgRr
        · exact only_into3 HG.out hgRa
      by_cases hk1 : k = 1
      · subst hk1
        have q0 : ¬ (1 : Int) = 0 := by omega
        clear bs2 bR2
        go_wp2_with fail
        refine (spoil_any _ rb _ xs A1 c1 31 hr4 (by omega) hA.rd (by omega)).mono ?_
        rintro e w5 ⟨zs, A5, c5, rfl, h5, hl5, hr5, hg5⟩
        have h5l := h5.lt
        have bs2 := bs.grown hg5 (fun e => by injection e with e; omega)
        have bR2 := bR.grown hg5 (fun e => by injection e with e; omega)
        have HA0 := hA.grown hg5 (or_of_lt (fun b hb => (hAl b hb).1) (by omega))
        have HB0 := hC.grown hg5 (or_of_lt (fun b hb => (hCl b hb).1) (by omega))
        have n5s : ∀ b, blk A5 = some b → b ≠ gs := fun b h => by have := (h5l b h).1; omega
        have n5R : ∀ b, blk A5 = some b → b ≠ gR := fun b h => by have := (h5l b h).1; omega
        have HG0 := only_trans G hg5
        have HA := Lib.hid ((own_set1 (k := 1) (.slice A5 zs.length c5) h5 n5s).mono (lo' := w.heap.size) (by omega))
        have HB := Lib.hid (own_set1 (k := 1) (.slice A5 zs.length c5) HB0 nBs)
        replace nA := n5R
        have Hr := Lib.hid (hr5.setCell (p := ⟨gs, 1, none⟩) (by simp; omega) (.slice A5 zs.length c5))
        have HG := Lib.hid (only_setCell HG0 (p := ⟨gs, 1, none⟩) (.inr (by simp; omega)) (.slice A5 zs.length c5))
        have hne : gR ≠ gs := by omega
        have e0 := bR2.cell 0
        have e1 := bR2.cell 1
        have e2 := bR2.cell 2
        have ef := bR2.frozen
        simp at e0 e1 e2
        have f0 := bs2.cell 0
        have f1 := bs2.cell 1
        have f2 := bs2.cell 2
        have ff := bs2.frozen
        simp at f0 f1 f2
        clear hg5 HA0 HB0 HG0 hr5 hr4 G hA hC bs bR hAl hCl nAs nBs h5 h5l n5s
        clear bR2 bs2
        go_wp2_with fail
        refine bodyPost_ret (v := strV ⟨cy, zs, ys⟩ A5 B1 c5 d1) (by simp [results, Try.results49, go_sem, e0, e1, e2]) rfl ⟨⟨cy, zs, ys⟩, A5, B1, c5, d1, rfl, ?_, ?_, by simp; omega, by simp; omega, ?_, ?_⟩
        · exact own_set3 (HA.out.mono (by omega)) (fun b h => nA b h)
        · exact own_set3 (HB.out.mono (by omega)) (fun b h => nB b h)
        · exact rdr_set3 (Hr.out.mono (by omega)) hgRr
        · exact only_into3 HG.out hgRa
      by_cases hk2 : k = 2
      · subst hk2
        have q0 : ¬ (2 : Int) = 0 := by omega
        clear bs2 bR2
        go_wp2_with fail
        refine (spoil_any _ rb _ ys B1 d1 61 hr4 (by omega) hC.rd (by omega)).mono ?_
        rintro e w5 ⟨zs, A5, c5, rfl, h5, hl5, hr5, hg5⟩
        have h5l := h5.lt
        have bs2 := bs.grown hg5 (fun e => by injection e with e; omega)
        have bR2 := bR.grown hg5 (fun e => by injection e with e; omega)
        have HA0 := hA.grown hg5 (or_of_lt (fun b hb => (hAl b hb).1) (by omega))
        have HB0 := hC.grown hg5 (or_of_lt (fun b hb => (hCl b hb).1) (by omega))
        have n5s : ∀ b, blk A5 = some b → b ≠ gs := fun b h => by have := (h5l b h).1; omega
        have n5R : ∀ b, blk A5 = some b → b ≠ gR := fun b h => by have := (h5l b h).1; omega
        have HG0 := only_trans G hg5
        have HA := Lib.hid (own_set1 (k := 2) (.slice A5 zs.length c5) HA0 nAs)
        have HB := Lib.hid ((own_set1 (k := 2) (.slice A5 zs.length c5) h5 n5s).mono (lo' := w.heap.size) (by omega))
        replace nB := n5R
        have Hr := Lib.hid (hr5.setCell (p := ⟨gs, 2, none⟩) (by simp; omega) (.slice A5 zs.length c5))
        have HG := Lib.hid (only_setCell HG0 (p := ⟨gs, 2, none⟩) (.inr (by simp; omega)) (.slice A5 zs.length c5))
        have hne : gR ≠ gs := by omega
        have e0 := bR2.cell 0
        have e1 := bR2.cell 1
        have e2 := bR2.cell 2
        have ef := bR2.frozen
        simp at e0 e1 e2
        have f0 := bs2.cell 0
        have f1 := bs2.cell 1
        have f2 := bs2.cell 2
        have ff := bs2.frozen
        simp at f0 f1 f2
        clear hg5 HA0 HB0 HG0 hr5 hr4 G hA hC bs bR hAl hCl nAs nBs h5 h5l n5s
        clear bR2 bs2
        go_wp2_with fail
        refine bodyPost_ret (v := strV ⟨cy, xs, zs⟩ A1 A5 c1 c5) (by simp [results, Try.results49, go_sem, e0, e1, e2]) rfl ⟨⟨cy, xs, zs⟩, A1, A5, c1, c5, rfl, ?_, ?_, by simp; omega, by simp; omega, ?_, ?_⟩
        · exact own_set3 (HA.out.mono (by omega)) (fun b h => nA b h)
        · exact own_set3 (HB.out.mono (by omega)) (fun b h => nB b h)
        · exact rdr_set3 (Hr.out.mono (by omega)) hgRr
        · exact only_into3 HG.out hgRa
      have e0' : (k == 0) = false := by simpa using hk0
      have e1' : (k == 1) = false := by simpa using hk1
      have e2' : (k == 2) = false := by simpa using hk2
      have HA := Lib.hid hA
      have HB := Lib.hid hC
      have Hr := Lib.hid hr4
      have HG := Lib.hid G
      have hne : gR ≠ gs := by omega
      have e0 := bR2.cell 0
      have e1 := bR2.cell 1
      have e2 := bR2.cell 2
      have ef := bR2.frozen
      simp at e0 e1 e2
      have f0 := bs2.cell 0
      have f1 := bs2.cell 1
      have f2 := bs2.cell 2
      have ff := bs2.frozen
      simp at f0 f1 f2
      clear hr4 G hA hC bs bR hAl hCl nAs nBs
      clear bR2 bs2
      go_wp2_with fail
      refine bodyPost_ret (v := strV ⟨cy, xs, ys⟩ A1 B1 c1 d1) (by simp [results, Try.results49, go_sem, e0, e1, e2]) rfl ⟨⟨cy, xs, ys⟩, A1, B1, c1, d1, rfl, ?_, ?_, by simp; omega, by simp; omega, ?_, ?_⟩
      · exact own_set3 (HA.out.mono (by omega)) (fun b h => nA b h)
      · exact own_set3 (HB.out.mono (by omega)) (fun b h => nB b h)
      · exact rdr_set3 (Hr.out.mono (by omega)) hgRr
      · exact only_into3 HG.out hgRa
end Go.Proofs.Ytmnapeefclkldaa
