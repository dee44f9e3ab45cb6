/-
  Generated tables that may be invalid.
-/
import Derived.Test.YtcckipckgnkieaaPlTab
namespace Go.Proofs.Ytcckipckgnkieaa
open Go.RowKit
set_option linter.unusedVariables false

theorem RowsG.tail {α : Type} {f : α → Value} {T0 : TypeId} {w : World} {lo hi : Nat} {p : Option Addr × Nat × Nat} {ps : List (Option Addr × Nat × Nat)} {xs : List α} {css : List (List α)} (h : RowsG f T0 w lo hi (p :: ps) (xs :: css)) : RowsG f T0 w lo hi ps css :=
  ⟨by simpa using h.1, fun k q ys hq hy => h.2.1 (k + 1) q ys (by simpa using hq) (by simpa using hy), fun j k q r hjk hq hr => h.2.2 (j + 1) (k + 1) q r (by omega) (by simpa using hq) (by simpa using hr)⟩
/-- A table that is small. -/
def Sm8 (t : List (List Int)) : Prop := t.length ≤ 8 ∧ ∀ k, k < t.length → (gm t k).length ≤ 8
theorem TabN.sm {n : Nat} {t : List (List Int)} (h : TabN n t) (h8 : n ≤ 8) : Sm8 t := ⟨by rw [h.l]; exact h8, fun k hk => by rw [h.rl k (by rw [← h.l]; exact hk)]; exact h8⟩
theorem Sm8.upd {t : List (List Int)} (h : Sm8 t) {a b : Nat} {x : Int} (ha : a < t.length) : Sm8 (t.set a ((gm t a).set b x)) := by
  refine ⟨by rw [List.length_set]; exact h.1, fun k hk => ?_⟩
  rw [List.length_set] at hk
  rw [gm_set ha]
  split
  · rw [List.length_set]; exact h.2 a ha
  · exact h.2 k hk
/-- A table that may be invalid. -/
def DrawA (w : World) (rb N : Nat) (e : Ending) (w' : World) : Prop :=
  ∃ t C c, e = .returned (.slice C (t : List (List Int)).length c) ∧ t.length ≤ c ∧ OwnG fI 32 3 w' w.heap.size w'.heap.size C c t ∧ Sm8 t ∧ Rdr w' rb N ∧ w.grownBy w' (some rb)

set_option maxRecDepth 100000 in
set_option maxHeartbeats 3200000 in
theorem anyClear_any (rb M : Nat) (w : World) (hd : Rdr w rb M) (hM : M ≤ 600000000) :
    Calls Try.prog 68 #[.pointer (some ⟨rb, 0, none⟩)] w (DrawA w rb (M + 400)) := by
  have hrb := hd.lt
  have hg7 := Blk.new w 3 ([4, 5, 3, 6, 2, 1, 8].map (Value.int .i64)).toArray
  go_enter Try.func68, Try.ntmps68
  go_wp2_with fail
  refine (one_any _ rb M _ 7 _ [4, 5, 3, 6, 2, 1, 8] (hd.alloc _) (by omega) hg7 (by omega) rfl (by omega) (by omega)).mono ?_
  rintro e w2 ⟨n0, rfl, hn0, hd2, hg2⟩
  have G2 := only_trans (only_alloc (only_refl w (some rb)) (.cells ([4, 5, 3, 6, 2, 1, 8].map (Value.int .i64)).toArray 3)) hg2
  have hnb : 1 ≤ n0 ∧ n0 ≤ 8 := by simp at hn0; omega
  obtain ⟨n, rfl⟩ := Int.eq_ofNat_of_zero_le (show 0 ≤ n0 by omega)
  clear hg7 hg2 hn0 hd
  go_wp2_with fail
  refine (randomClear_any n rb _ _ (by omega) (by omega) hd2 (by omega)).mono ?_
  rintro e w3 ⟨t, C, c, rfl, htc, hG, ht, hd3, hg3⟩
  have G3 := only_trans G2 hg3
  have hz2 := G2.size
  have hz3 := hg3.size
  have hsm := ht.sm (by omega)
  have htl := ht.l
  have hrl := ht.rl
  rw [htl] at htc ⊢
  obtain ⟨hi, hhi⟩ : ∃ hi, hi = w3.heap.size := ⟨_, rfl⟩
  obtain ⟨lo, hlo⟩ : ∃ lo, lo = w2.heap.size := ⟨_, rfl⟩
  rw [← hhi, ← hlo] at hG
  clear hd2 hg3 G2 ht
  go_wp2_with fail
  refine (pick_any _ rb _ _ hd3 (by omega)).mono ?_
  rintro e w4 ⟨k, rfl, -, -, hd4, hg4⟩
  have hG4 := hG.grown hg4 (by omega) (fun b e => by injection e with e; omega)
  have G4 := only_trans G3 hg4
  have hz4 := hg4.size
  clear hd3 hg4 G3 hG
  have Htl := Lib.hid htl
  have Hrl := Lib.hid hrl
  have Hsm := Lib.hid hsm
  clear htl hrl hsm
  cases hk0 : (k == 0) with
  | true =>
    obtain ⟨gC, oC, g, o, c0, rfl, hcC, hlg, hput⟩ := hG4.put2 (rb := rb) (by decide) (by omega) (by omega) (k := 0) (j := 0) (by rw [Htl.out]; omega) (by rw [Hrl.out 0 (by omega)]; omega)
    rw [Hrl.out 0 (by omega)] at hcC hput
    obtain ⟨hc5, ⟨z5, hz5⟩, hf5, hset⟩ := hput _ (only_refl _ _)
    obtain ⟨hG6, -⟩ := hset 1
    have hd6 := hd4.setCell (p := ⟨g, o + 0, none⟩) (by simp; omega) (.int .i64 1)
    have G6 := only_setCell G4 (p := ⟨g, o + 0, none⟩) (.inr (by simp; omega)) (.int .i64 1)
    have hn1 : (0 : Int) < (n : Int) := by omega
    clear hput hset hc5
    simp only [Nat.add_zero] at hcC hz5 hf5 hG6 hd6 G6
    go_wp2_with fail
    go_ret
    exact ⟨_, some ⟨gC, oC, none⟩, c, by rw [List.length_set, Htl.out]; rfl, by rw [List.length_set, Htl.out]; exact htc, (hG6.up (by simp; omega)).mono (by omega), Hsm.out.upd (by rw [Htl.out]; omega), hd6.mono (by omega), G6⟩
  | false =>
  cases hk1 : (k == 1) with
  | true =>
    obtain ⟨gC, oC, g, o, c0, rfl, hcC, hlg, hput⟩ := hG4.put2 (rb := rb) (by decide) (by omega) (by omega) (k := n - 1) (j := 0) (by rw [Htl.out]; omega) (by rw [Hrl.out (n - 1) (by omega)]; omega)
    rw [Hrl.out (n - 1) (by omega)] at hcC hput
    obtain ⟨S0, hS⟩ : ∃ S0 : World → Prop, S0 = fun y => y.cell? ⟨gC, oC + (n - 1), none⟩ = some (.slice (some ⟨g, o, none⟩) n c0) := ⟨_, rfl⟩
    have hS1 : ∀ y, S0 y → y.cell? ⟨gC, oC + (n - 1), none⟩ = some (.slice (some ⟨g, o, none⟩) n c0) := fun y h => by rw [hS] at h; exact h
    have k0 : ∀ y : Held S0, y.x.cell? ⟨gC, oC + (n - 1), none⟩ = some (.slice (some ⟨g, o, none⟩) n c0) := fun y => hS1 y.x y.h
    have hS3 : ∀ y : World, y.cell? ⟨gC, oC + (n - 1), none⟩ = some (.slice (some ⟨g, o, none⟩) n c0) → S0 y := fun y h => by rw [hS]; exact h
    have HS3 := Lib.hid hS3
    have hw1 : IntKind.i64.wrap ((n : Int) - 1) = ((n - 1 : Nat) : Int) := by rw [Int.natCast_sub (by omega)]; simp [IntKind.wrap, IntKind.bits, IntKind.signed]; omega
    have hi1 : ((n - 1 : Nat) : Int) < (n : Int) := by omega
    have hn1 : 0 < n := by omega
    clear hS hS1 hS3
    go_wp2_with fail
    refine wp_region_mix S0 [(0, 0), (0, 1), (0, 2), (0, 3), (0, 4), (0, 5), (0, 6), (1, 7), (1, 8), (0, 9), (1, 10)] [] (by kernel_rfl) (by kernel_rfl) (HS3.out _ hcC) ?_
    intro hne1
    simp only [mixOps, List.filterMap_cons, List.filterMap_nil, List.getElem?_toArray, List.getElem?_cons_zero, List.getElem?_cons_succ, Option.map_some]
    have hd := hd4.drew
    have G := only_drew G4
    have hput := fun w5 (hg : w4.drew.grownBy w5 (some rb)) => hput w5 ⟨hg.os, hg.tape, hg.output, hg.size, hg.block⟩
    have hrb4 : rb < w4.drew.heap.size := hd.lt
    replace hz4 : w3.heap.size ≤ w4.drew.heap.size := hz4
    generalize w4.drew = wd at *
    repeat (refine mix_early (fun K hK => ?_); go_simp; refine hK _ ?_; clear hK K)
    refine mix_late rfl (fun K hK => ?_)
    go_wp2_with fail
    have ga := only_alloc (only_refl wd (some rb)) (.cells #[.int .i64 0, .int .i64 5, .int .i64 6, .int .i64 (-1)] 3)
    refine ⟨HS3.out _ (hput _ ga).1, ?_⟩
    refine mix_late rfl (fun K hK => ?_)
    go_wp2_with fail
    refine (one_any _ rb _ _ 4 _ [0, 5, 6, -1] (hd.alloc _) (by omega) (Blk.new _ _ _) (by omega) rfl (by omega) (by omega)).mono ?_
    rintro e w5 ⟨x, rfl, -, hd5, hg5⟩
    have hgg := only_trans ga hg5
    obtain ⟨hc5, ⟨z5, hz5⟩, hf5, hset⟩ := hput _ hgg
    obtain ⟨hG6, hc6⟩ := hset x
    have hd6 := hd5.setCell (p := ⟨g, o + 0, none⟩) (by simp; omega) (.int .i64 x)
    have G6 := only_setCell (only_trans G hgg) (p := ⟨g, o + 0, none⟩) (.inr (by simp; omega)) (.int .i64 x)
    have hs5 := hgg.size
    have hsm6 := Lib.hid (Hsm.out.upd (a := n - 1) (b := 0) (x := x) (by rw [Htl.out]; omega))
    clear hput hset hd hd5 hg5 hgg ga G
    simp only [Nat.add_zero] at hz5 hf5 hG6 hd6 G6 hc6
    go_wp2_with fail
    refine ⟨HS3.out _ hc5, ?_⟩
    repeat (refine mix_early (fun K hK => ?_); go_simp; refine hK _ ?_; clear hK K)
    refine mix_late rfl (fun K hK => ?_)
    go_wp2_with fail
    refine ⟨HS3.out _ hc6, ?_⟩
    refine mix_nil ?_
    simp only [tailT, List.filterMap_nil]
    refine wpLateC_nil (NoPanic.normal ?_)
    clear k0 hne1 hc5 hz5 hf5 hc6 HS3
    go_wp2_with fail
    go_ret
    exact ⟨_, some ⟨gC, oC, none⟩, c, by rw [List.length_set, Htl.out]; rfl, by rw [List.length_set, Htl.out]; exact htc, (hG6.up (by simp; omega)).mono (by omega), hsm6.out, hd6.mono (by omega), G6⟩
  | false =>
  cases hk2 : (k == 2) with
  | true =>
    obtain ⟨ps, hO, hCb, hR⟩ := hG4
    have hpl := hR.1
    cases t with
    | nil => have := Htl.out; simp at this; omega
    | cons x ts =>
    cases ps with
    | nil => simp at hpl
    | cons q qs =>
    have htl := Htl.out
    obtain ⟨ht1, ht2⟩ := hO.tail
    have hR1 := hR.tail
    have hsm1 : Sm8 ts := by
      have h1 := Hsm.out
      refine ⟨by have := h1.1; simp at this; omega, fun k hk => ?_⟩
      have := h1.2 (k + 1) (by simp; omega)
      simpa [gm] using this
    have Hsm1 := Lib.hid hsm1
    obtain ⟨gC, oC, rfl, hc0, -, hgl, -⟩ := hO.at (k := 0) (by simp)
    have hn1 : (1 : Int) ≤ (n : Int) := by omega
    have Hls := Lib.hid (show ts.length = n - 1 by simp at htl; omega)
    have hw1 : (1 : Int) ≤ (c : Int) := by omega
    clear hO hR hpl htl hsm1 hc0
    by_cases hc1 : c = 1
    · subst hc1
      rw [if_pos rfl] at ht1
      have Ht1 := Lib.hid ht1
      obtain rfl : n = 1 := by omega
      have hcast : ((1 : Nat) : Int) = 1 := rfl
      simp only [hcast]
      clear ht1
      go_wp2_with fail
      go_ret
      exact ⟨ts, some ⟨gC, oC, none⟩, 0, by rw [Hls.out]; rfl, by rw [Hls.out]; omega, OwnG.mono (OwnG.up ⟨qs, Ht1.out, hCb, hR1⟩ (by omega)) (by omega), Hsm1.out, hd4.mono (by omega), G4⟩
    · rw [if_neg hc1] at ht1
      have Ht1 := Lib.hid ht1
      clear ht1
      go_wp2_with fail
      go_ret
      exact ⟨ts, some ⟨gC, oC + 1, none⟩, c - 1, by rw [Hls.out]; rfl, by rw [Hls.out]; omega, OwnG.mono (OwnG.up ⟨qs, Ht1.out, fun b hb => hCb b (by simpa using hb), hR1⟩ (by omega)) (by omega), Hsm1.out, hd4.mono (by omega), G4⟩
  | false =>
    go_wp2_with fail
    go_ret
    exact ⟨t, C, c, by rw [Htl.out]; rfl, by rw [Htl.out]; exact htc, (hG4.up (by omega)).mono (by omega), Hsm.out, hd4.mono (by omega), G4⟩
end Go.Proofs.Ytcckipckgnkieaa
