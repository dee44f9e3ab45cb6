/-
  The monitor: the program's and the reference's.
-/
import Derived.Test.YtcckipckgnkieaaPlFault3
import Derived.Test.YtcckipckgnkieaaClone
import Derived.Test.YtcckipckgnkieaaDrList
namespace Go.Proofs.Ytcckipckgnkieaa
open Go.RowKit
set_option linter.unusedVariables false

def grdN (h : List (List Int)) (f : Int) (k : Nat) : List (List Int) := mapN k fun i => if f < 0 ∨ (i : Int) < f then gm h i else []
theorem grdN_length (h : List (List Int)) (f : Int) (k : Nat) : (grdN h f k).length = k := mapN_length _ _
theorem grdN_keep {h : List (List Int)} {f : Int} {k : Nat} (hk : f < 0 ∨ (k : Int) < f) : grdN h f (k + 1) = grdN h f k ++ [gm h k] := by
  rw [grdN, mapN_succ, if_pos hk]; rfl
theorem grdN_drop {h : List (List Int)} {f : Int} {k : Nat} (hk : ¬ (f < 0 ∨ (k : Int) < f)) : grdN h f (k + 1) = grdN h f k ++ [[]] := by
  rw [grdN, mapN_succ, if_neg hk]; rfl
theorem guard_eq {t h : List (List Int)} {f : Int} (hf : f = faultF t h) (hn : f ≠ -2) : guardF t h = grdN h f h.length := by
  rw [guardF, ← hf, if_neg hn]; rfl
theorem guard_no {t h : List (List Int)} {f : Int} (hf : f = faultF t h) (hn : f = -2) : guardF t h = [] := by
  rw [guardF, ← hf, if_pos hn]
theorem OwnG.nil {α : Type} (f : α → Value) (T1 T0 : TypeId) (w : World) (lo hi : Nat) : OwnG f T1 T0 w lo hi none 0 [] :=
  ⟨[], OwnO.nil _ _ _ _, fun b h => by simp at h, RowsG.nil _ _ _ _ _⟩
theorem fill_skip {ps : List (Option Addr × Nat × Nat)} {n k : Nat} (hn : k < n) :
    ps ++ List.replicate (n - k) ((none : Option Addr), 0, 0) = (ps ++ [(none, 0, 0)]) ++ List.replicate (n - (k + 1)) (none, 0, 0) := by
  have e : n - k = (n - (k + 1)) + 1 := by omega
  rw [e, List.replicate_succ, List.append_assoc]
  rfl
theorem RowsG.far {α : Type} {f : α → Value} {T0 T1 : TypeId} {w w' : World} {lo hi lo' : Nat} {ps qs : List (Option Addr × Nat × Nat)} {css : List (List α)} {C : Option Addr} {c : Nat} (h : RowsG f T0 w lo hi ps css) (hO : OwnO fS w lo' T1 C c qs) (hne : T1 ≠ T0) (hg : w.grownBy w' (blk C)) : RowsG f T0 w' lo hi ps css :=
  h.grown hg fun i p hp => by
    obtain ⟨h1, h2, _⟩ := h
    have hi : i < css.length := by rw [← h1]; exact (List.getElem?_eq_some_iff.1 hp).1
    exact (sepT hO (h2 i p _ hp (List.getElem?_eq_getElem hi)).2.1 hne).or

set_option maxHeartbeats 1600000 in
theorem iGuard_any (t h : List (List Int)) (T C : Option Addr) (c d : Nat) (w : World) (hr : RdSS fI w T t) (hh : RdSS fI w C h) (hn : t.length ≤ 1000000000) (hl : ∀ k, k < t.length → (gm t k).length ≤ 1000000000) (hn2 : h.length ≤ 2000000) (hl2 : ∀ k, k < h.length → (gm h k).length ≤ 2000000) :
    Calls Try.prog 29 #[.slice T t.length c, .slice C h.length d] w (NewG fI 32 3 w (guardF t h)) := by
  obtain ⟨i0, hi0, hz0, hz1, hz2⟩ := info_parts info_S1I
  have hmk := fun W => run_make_n (P := Try.prog) 23 32 i0 (Value.slice none 0 0) Try.underlying23 hi0 hz0 hz1 rfl .i64 .i64 h.length h.length (Nat.le_refl _) (by omega) (by omega) W
  obtain ⟨f, hf⟩ : ∃ f, f = faultF t h := ⟨_, rfl⟩
  have Hf := Lib.hid hf
  have hbd := faultF_bd (t := t) (h := h)
  rw [← hf] at hbd
  clear hf
  go_enter Try.func29, Try.ntmps29
  go_wp2_with fail
  refine (iFault_v t h f Hf T C c d _ hr hh hn hl (by omega) (fun k hk => by have := hl2 k hk; omega)).mono ?_
  rintro e w1 ⟨rfl, v1⟩
  by_cases hf2 : f = -2
  · have H := Lib.hid (guard_no Hf.out hf2)
    have hf3 : (f == -2) = true := by simp [hf2]
    clear hmk hf2
    go_wp2_with fail
    go_ret
    refine ⟨none, 0, by rw [H.out]; rfl, by rw [H.out]; exact OwnG.nil _ _ _ _ _ _, v1⟩
  have H := Lib.hid (guard_eq Hf.out hf2)
  have hf3 : (f == -2) = false := by simp [hf2]
  have hz1 := v1.size
  have bA := Blk.new w1 32 (Array.replicate h.length (Value.slice none 0 0))
  have hA := (OwnL.of_blk (xs := List.replicate h.length ((none : Option Addr), 0, 0)) (f := fS) (lo := w.heap.size) (by simpa [fS] using bA) hz1 (by simp [maxLen]; omega)).o
  rw [List.length_replicate] at hA
  have hB := v1.alloc hz1 (.cells (Array.replicate h.length (Value.slice none 0 0)) 32)
  clear hf2
  go_wp2_with fail
  have hA0 : OwnO fS (w1.alloc (.cells (Array.replicate h.length (Value.slice none 0 0)) 32)) w.heap.size 32 (some ⟨w1.heap.size, 0, none⟩) h.length ([] ++ List.replicate (h.length - 0) (none, 0, 0)) := hA
  have hgl : w1.heap.size < (w1.alloc (.cells (Array.replicate h.length (Value.slice none 0 0)) 32)).heap.size := by simp
  clear bA hA v1 hmk
  generalize w1.alloc (.cells (Array.replicate h.length (Value.slice none 0 0)) 32) = w2 at *
  generalize w1.heap.size = gC at *
  have hR0 := RowsG.nil fI 3 w2 w.heap.size w2.heap.size
  go_loopw [19] (fun vi wr => ∃ k : Nat, k ≤ h.length ∧ vi = .int .i64 k ∧ (∃ ps, OwnO fS wr w.heap.size 32 (some ⟨gC, 0, none⟩) h.length (ps ++ List.replicate (h.length - k) (none, 0, 0)) ∧ RowsG fI 3 wr w.heap.size wr.heap.size ps (grdN h f k)) ∧ Below w.heap.size w wr) (fun vi _ => h.length - (intOf vi).toNat)
  case atStart => exact ⟨0, Nat.zero_le _, rfl, ⟨[], hA0, hR0⟩, hB⟩
  case round =>
    clear hA0 hR0 hB
    obtain ⟨k, hk, rfl, ⟨ps, hO, hR⟩, hB⟩ := hrel
    have hpl := Lib.hid (show ps.length = k by rw [hR.1, grdN_length])
    by_cases hlt : k < h.length
    · obtain ⟨b, o, A, c', rfl, hcw, hrd0⟩ := rowAt hh hlt
      have hcell := (hB.cell (World.block_lt_of_cell? w _ hcw)).trans hcw
      have hrd := hrd0.below hB
      have hxl := hl2 k hlt
      clear hcw hrd0
      by_cases hkeep : f < 0 ∨ (k : Int) < f
      · have Htk := Lib.hid (grdN_keep (h := h) hkeep)
        have hct := cloneI_any (gm h k) A c' wr hrd hxl
        generalize gm h k = xs at *
        have hkp : ¬ f < 0 → (k : Int) < f := fun hh => by omega
        have step : Calls Try.prog 43 #[.slice A xs.length c'] wr fun e w5 => ∃ A5 c5, e = .returned (.slice A5 xs.length c5) ∧ (∃ g0 hg0, w5.cell? ⟨gC, k, none⟩ = some g0 ∧ w5.frozen? ⟨gC, k, none⟩ = false ∧ hg0 = True) ∧ (OwnO fS (w5.setCell ⟨gC, k, none⟩ (.slice A5 xs.length c5)) w.heap.size 32 (some ⟨gC, 0, none⟩) h.length ((ps ++ [(A5, xs.length, c5)]) ++ List.replicate (h.length - (k + 1)) (none, 0, 0)) ∧ RowsG fI 3 (w5.setCell ⟨gC, k, none⟩ (.slice A5 xs.length c5)) w.heap.size (w5.setCell ⟨gC, k, none⟩ (.slice A5 xs.length c5)).heap.size (ps ++ [(A5, xs.length, c5)]) (grdN h f k ++ [xs])) ∧ Below w.heap.size w (w5.setCell ⟨gC, k, none⟩ (.slice A5 xs.length c5)) := by
          refine hct.mono ?_
          rintro e w5 ⟨A5, c5, rfl, ho5, v5⟩
          have hO5 := hO.below v5
          have hR5 := hR.below v5
          have hB5 := hB.trans (v5.mono hB.size)
          have hzr := hB.size
          have hR6 := hR5.snoc (hi' := w5.heap.size) (ho5.mono hzr) (fun b hb => ho5.lt b hb) v5.size
          have hkl : k < (ps ++ List.replicate (h.length - k) ((none : Option Addr), 0, 0)).length := by have := hpl.out; simp; omega
          obtain ⟨g', o', e', hca, hfa, -⟩ := hO5.at hkl
          obtain ⟨rfl, rfl⟩ : gC = g' ∧ 0 = o' := by simpa using e'
          rw [Nat.zero_add] at hca hfa
          have hs := hO5.set (k := k) (x := (A5, xs.length, c5)) hkl
          rw [fill_ss hpl.out hlt, Nat.zero_add] at hs
          have hR7 := hR6.far hO5 (by decide) (only_set (w := w5) (g := gC) (k := k) (fS (A5, xs.length, c5)))
          refine ⟨A5, c5, rfl, ⟨_, True, hca, hfa, rfl⟩, ⟨hs, ?_⟩, hB5.setCell (p := ⟨gC, k, none⟩) (hO.lt gC rfl).1 _⟩
          exact hR7.mono (by simp)
        clear hct hO hR hB
        rcases Int.lt_or_le f 0 with hneg | hpos
        · go_wp2_with fail
          refine step.mono ?_
          rintro e w5 ⟨A5, c5, rfl, ⟨g0, _, hca, hfa, -⟩, ⟨hO7, hR7⟩, hB7⟩
          clear step
          have HO := Lib.hid hO7
          have HR := Lib.hid hR7
          have HB := Lib.hid hB7
          clear hO7 hR7 hB7
          go_wp2_with fail
          go_roundw
          case rel => exact ⟨k + 1, by omega, by go_num, ⟨_, HO.out, by rw [Htk.out]; exact HR.out⟩, HB.out⟩
          case measure => simp [intOf]; omega
        · have hlt3 := hkp (by omega)
          go_wp2_with fail
          refine step.mono ?_
          rintro e w5 ⟨A5, c5, rfl, ⟨g0, _, hca, hfa, -⟩, ⟨hO7, hR7⟩, hB7⟩
          clear step
          have HO := Lib.hid hO7
          have HR := Lib.hid hR7
          have HB := Lib.hid hB7
          clear hO7 hR7 hB7
          go_wp2_with fail
          go_roundw
          case rel => exact ⟨k + 1, by omega, by go_num, ⟨_, HO.out, by rw [Htk.out]; exact HR.out⟩, HB.out⟩
          case measure => simp [intOf]; omega
      · have Htk := Lib.hid (grdN_drop (h := h) hkeep)
        rw [fill_skip hlt] at hO
        have hR2 := Lib.hid (hR.snoc (hi' := wr.heap.size) (OwnO.nil fI wr w.heap.size 3) (fun b hb => by simp at hb) (Nat.le_refl _))
        have h1 : ¬ f < 0 := fun e => hkeep (.inl e)
        have h2 : ¬ (k : Int) < f := fun e => hkeep (.inr e)
        clear hkeep hR
        go_wp2_with fail
        go_roundw
        case rel => exact ⟨k + 1, by omega, by go_num, ⟨_, hO, by rw [Htk.out]; exact hR2.out⟩, hB⟩
        case measure => simp [intOf]; omega
    · obtain rfl : k = h.length := by omega
      rw [Nat.sub_self, List.replicate_zero, List.append_nil] at hO
      have hgw := fun b hb => (hO.lt b hb).2
      have Hl := Lib.hid (show h.length = (guardF t h).length by rw [H.out, grdN_length])
      go_wp2_with fail
      go_ret
      exact ⟨some ⟨gC, 0, none⟩, h.length, by rw [← Hl.out]; rfl, by rw [H.out]; exact ⟨ps, hO, hgw, hR⟩, hB⟩
end Go.Proofs.Ytcckipckgnkieaa
