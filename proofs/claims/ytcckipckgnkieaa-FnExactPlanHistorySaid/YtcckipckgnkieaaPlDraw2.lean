/-
  Generated phases.
-/
import Derived.Test.YtcckipckgnkieaaPlDraw
import Derived.Test.YtcckipckgnkieaaPlConfG
namespace Go.Proofs.Ytcckipckgnkieaa
open Go.RowKit
set_option linter.unusedVariables false

theorem InN.nil (n : Nat) : InN n [] := fun i h => by simp at h
theorem InN.push {n : Nat} {m : List Int} {x : Int} (h : InN n m) (hx : 0 ≤ x ∧ x < (n : Int)) : InN n (m ++ [x]) := by
  intro i hi
  simp at hi
  by_cases e : i < m.length
  · have := h i e
    rwa [← ga_at e, ← List.getElem_append_left (bs := [x]) (h' := by simp; omega), ga_at] at this
  · obtain rfl : i = m.length := by omega
    rw [← ga_at (by simp)]
    simpa using hx
theorem or_own {A : Option Addr} {rb n : Nat} (h : ∀ b, blk A = some b → n ≤ b) (hr : rb < n) : blk A = none ∨ blk A ≠ some rb := by
  cases hA : blk A with
  | none => exact .inl rfl
  | some b => exact .inr fun e => by injection e with e; have := h b hA; omega

set_option maxRecDepth 100000 in
set_option maxHeartbeats 3200000 in
theorem randomPhase_any (t : List (List Int)) (T : Option Addr) (c rb M : Nat) (w : World) (hr : RdSS fI w T t) (hg : GoodC t) (hd : Rdr w rb M) (hM : M ≤ 800000000) :
    Calls Try.prog 88 #[.pointer (some ⟨rb, 0, none⟩), .slice T t.length c] w (DrawL fI 3 w rb (M + 9) fun xs => xs.length ≤ 8) := by
  obtain ⟨i0, hi0, hz0, hz1, hz2⟩ := info_parts info_Int
  have hn1 := hg.n1
  have hn8 := hg.n2
  have hrb := hd.lt
  have Hrl := Lib.hid (fun k (hk : k < t.length) => show (gm t k).length ≤ 1000000000 by rw [hg.rl k hk]; omega)
  have Hcf := Lib.hid (conF_yes (dec_iff.mpr hg : validC t = true))
  clear hg
  have h0 := (OwnL.of_cap (lo := w.heap.size) fI (Blk.new w 3 #[]) (Nat.le_refl _) rfl (by simp [maxLen])).o
  have hB := (Below.refl w.heap.size w).alloc (Nat.le_refl _) (.cells #[] 3)
  have hr1 := hr.alloc (.cells #[] 3)
  have hd1 := hd.alloc (.cells #[] 3)
  go_enter Try.func88, Try.ntmps88
  go_wp2_with fail
  have hs1 : (w.alloc (.cells #[] 3)).heap.size = w.heap.size + 1 := by simp
  generalize w.alloc (.cells #[] 3) = w1 at *
  refine (sConfG_any t T c _ hr1 (by omega) Hrl.out).mono ?_
  rintro e w2 ⟨D, d2, rfl, hD, v2⟩
  have hB2 := hB.trans (v2.mono hB.size)
  have hO2 := h0.below v2
  have hd2 := hd1.below v2 (by omega)
  have hz2' := v2.size
  rw [Hcf.out] at hD
  have Hcl : Hid ((conF t).length = t.length) := Lib.hid (by rw [Hcf.out, cfL_length])
  rw [Hcl.out]
  obtain ⟨lo, hlo⟩ : ∃ lo, lo = w1.heap.size := ⟨_, rfl⟩
  obtain ⟨hi, hhi⟩ : ∃ hi, hi = w2.heap.size := ⟨_, rfl⟩
  rw [← hlo, ← hhi] at hD
  have G2 := only_of_below hB2 (some rb)
  clear v2 hB hr1 hd1 h0 hr hd hB2
  go_wp2_with fail
  refine (pick_any _ rb M _ hd2 (by omega)).mono ?_
  rintro e w3 ⟨x, rfl, hx0, hx1, hd3, hg3⟩
  have hx1 := hx1 (by omega)
  have hO3 := hO2.grown hg3 (or_own (fun b hb => (hO2.lt b hb).1) hrb)
  have hD3 := hD.grown hg3 (by omega) (fun b e => by injection e with e; omega)
  have G3 := only_trans G2 hg3
  have hz3 := hg3.size
  clear hd2 hg3 hO2 hD G2
  go_wp2_with fail
  go_loopw [5, 8] (fun v5 vi wr => ∃ k : Nat, k ≤ t.length ∧ vi = .int .i64 k ∧ (∃ O d ys, v5 = .slice O (ys : List Int).length d ∧ ys.length ≤ k ∧ InN t.length ys ∧ OwnO fI wr w.heap.size 3 O d ys ∧ ∀ b, blk O = some b → b < lo ∨ hi ≤ b) ∧ OwnG fB 100 4 wr lo hi D d2 (cfL t) ∧ Rdr wr rb (M + 1 + k) ∧ w.grownBy wr (some rb) ∧ hi ≤ wr.heap.size) (fun _ vi _ => t.length - (intOf vi).toNat)
  case atStart => exact ⟨0, Nat.zero_le _, rfl, ⟨_, _, [], rfl, Nat.zero_le _, InN.nil _, hO3, fun b hb => .inl (by simp at hb; omega)⟩, hD3, hd3, G3, by omega⟩
  case round =>
    clear hO3 hD3 hd3 G3
    obtain ⟨k, hk, rfl, ⟨O, d, ys, rfl, hyl, hin, hO, hOs⟩, hD, hd, G, hhi2⟩ := hrel
    have Hin := Lib.hid hin
    clear hin
    have hOl := hO.lt
    have hzG := G.size
    by_cases hlt : k < t.length
    · obtain ⟨z, hz⟩ : ∃ z, z = (x + (k : Int)) % (t.length : Int) := ⟨_, rfl⟩
      have hzb : 0 ≤ z ∧ z < (t.length : Int) := by
        rw [hz]
        exact ⟨Int.emod_nonneg _ (by omega), Int.emod_lt_of_pos _ (by omega)⟩
      have htm : (x + (k : Int)).tmod (t.length : Int) = z := by rw [hz]; exact Int.tmod_eq_emod_of_nonneg (by omega)
      have hn0 : ¬ (t.length : Int) = 0 := by omega
      clear hz
      go_wp2_with fail
      refine (pick_any _ rb _ _ hd (by omega)).mono ?_
      rintro e w4 ⟨u, rfl, hu0, -, hd4, hg4⟩
      have hO4 := hO.grown hg4 (or_own (fun b hb => (hOl b hb).1) hrb)
      have hD4 := hD.grown hg4 hhi2 (fun b e => by injection e with e; omega)
      have G4 := only_trans G hg4
      have hz4 := hg4.size
      have hOl4 := hO4.lt
      clear hg4 hO hD hd G hOl
      by_cases hu : 0 < u
      · have hu' : decide (0 < u) = true := decide_eq_true hu
        clear hu
        go_wp2_with fail
        refine (copyInts_any ys O d w4 hO4.rd (by omega)).mono ?_
        rintro e w5 ⟨A5, c5, rfl, ho5, v5⟩
        replace ho5 := ho5.o
        have h5l := ho5.lt
        have hz5 := v5.size
        go_wp2_with (at_builtin; go_must (refine wpList_pushG (by rfl) (.tmp 35) (.tmp 37) 32 rfl i0 _ 8 Try.underlying32 hi0 hz0 hz1 hz2 rfl rfl (ho5.alloc (.cells #[.int .i64 z] 3)) w5.heap.size z rfl (cell_new _ _ _) rfl (by omega) (by omega) (by simp; omega) ?_); intro A6 c6 w6 ho6 hg6 hb6)
        have v6 := below_push hz5 v5 h5l hg6
        have hcl := sClear_w t (ys ++ [z]) D A6 c6 d2 w6 (hD4.below v6).rd ho6.rd (by omega) (by simp; omega) (Hin.out.push hzb)
        rw [show (ys ++ [z]).length = ys.length + 1 by simp] at hcl
        refine hcl.mono ?_
        rintro e w7 ⟨⟨v, rfl⟩, v7⟩
        have V := v6.trans (v7.mono v6.size)
        have hO7 := hO4.below V
        have hD7 := hD4.below V
        have hd7 := hd4.below V (by omega)
        have G7 := only_below G4 V
        have hz7 := V.size
        clear hcl v7 v6 hg6 ho6 hb6 v5 ho5 h5l hO4 hD4 hd4 G4 V
        have hOl7 := hO7.lt
        cases v with
        | true =>
          go_wp2_with (at_builtin; go_must (refine wpList_pushO rfl (.tmp 41) (.tmp 43) 32 rfl i0 _ 8 Try.underlying32 hi0 hz0 hz1 hz2 rfl rfl (hO7.alloc (.cells #[.int .i64 z] 3)) w7.heap.size z rfl (cell_new _ _ _) rfl (by omega) (by omega) (by simp; omega) ?_); intro A8 c8 w8 hO8 hg8 hb8)
          have hz8 := hg8.size
          have hD8 := (hD7.alloc (.cells #[.int .i64 z] 3)).grown hg8 (by simp; omega) hOs
          have hd8 := (hd7.alloc (.cells #[.int .i64 z] 3)).grown hg8 (fun b hb => by have := (hOl7 b hb).1; omega)
          have G8 := only_own (only_alloc G7 (.cells #[.int .i64 z] 3)) hg8 (fun b hb => (hOl7 b hb).1)
          go_roundw
          case rel => exact ⟨k + 1, by omega, by go_num, ⟨A8, c8, ys ++ [z], by simp, by simp; omega, Hin.out.push hzb, hO8, fun b hb => by
              rcases hb8 with h | h
              · exact hOs b (by rw [← h]; exact hb)
              · have := h b hb
                simp at this
                omega⟩, hD8, hd8.mono (by omega), G8, by simp at hz8; omega⟩
          case measure => simp [intOf]; omega
        | false =>
          go_wp2_with fail
          go_roundw
          case rel => exact ⟨k + 1, by omega, by go_num, ⟨O, d, ys, rfl, by omega, Hin.out, hO7, hOs⟩, hD7, hd7.mono (by omega), G7, by omega⟩
          case measure => simp [intOf]; omega
      · have hu' : decide (0 < u) = false := decide_eq_false hu
        clear hu
        go_wp2_with fail
        go_roundw
        case rel => exact ⟨k + 1, by omega, by go_num, ⟨O, d, ys, rfl, by omega, Hin.out, hO4, hOs⟩, hD4, hd4.mono (by omega), G4, by omega⟩
        case measure => simp [intOf]; omega
    · obtain rfl : k = t.length := by omega
      clear hlt
      go_wp2_with fail
      refine (sorted_any ys O d wr hO.rd (by omega)).mono ?_
      rintro e w5 ⟨zs, A5, c5, rfl, ho5, hzl, v5⟩
      go_wp2_with fail
      go_ret
      exact ⟨zs, A5, c5, by rw [hzl]; rfl, ho5.mono hzG, by omega, (hd.below v5 (by omega)).mono (by omega), only_below G v5⟩
end Go.Proofs.Ytcckipckgnkieaa
