/-
  The table of conflicts.
-/
import Derived.Test.YtcckipckgnkieaaPlVal2
namespace Go.Proofs.Ytcckipckgnkieaa
open Go.RowKit
set_option linter.unusedVariables false

def cfR (t : List (List Int)) (a n : Nat) : List Bool := mapN n fun b => decide (0 < tc t a b)
def cfN (t : List (List Int)) (k : Nat) : List (List Bool) := mapN k fun a => cfR t a t.length
def cfL (t : List (List Int)) : List (List Bool) := cfN t t.length
noncomputable def conF (t : List (List Int)) : List (List Bool) := if validC t then cfL t else []
theorem cfR_length (t : List (List Int)) (a n : Nat) : (cfR t a n).length = n := mapN_length _ _
theorem cfR_succ (t : List (List Int)) (a n : Nat) : cfR t a (n + 1) = cfR t a n ++ [decide (0 < tc t a n)] := mapN_succ _ _
theorem cfN_length (t : List (List Int)) (k : Nat) : (cfN t k).length = k := mapN_length _ _
theorem cfN_succ (t : List (List Int)) (k : Nat) : cfN t (k + 1) = cfN t k ++ [cfR t k t.length] := mapN_succ _ _
theorem cfL_length (t : List (List Int)) : (cfL t).length = t.length := cfN_length _ _
theorem cfAt {w : World} {D : Option Addr} {t : List (List Int)} (h : RdSS fB w D (cfL t)) {a : Nat} (ha : a < t.length) :
    ∃ b o b1 o1 c, D = some ⟨b, o, none⟩ ∧ w.cell? ⟨b, o + a, none⟩ = some (.slice (some ⟨b1, o1, none⟩) t.length c) ∧ ∀ j, j < t.length → w.cell? ⟨b1, o1 + j, none⟩ = some (.bool (decide (0 < tc t a j))) := by
  obtain ⟨b, o, A, c, h1, h2, h3⟩ := h.at (k := a) (by rw [cfL_length]; exact ha)
  have hrow : (cfL t)[a]'(by rw [cfL_length]; exact ha) = cfR t a t.length := by simp only [cfL, cfN]; rw [mapN_get]
  rw [hrow] at h2 h3
  rw [cfR_length] at h2
  obtain ⟨b1, o1, hA, _⟩ := h3.at (k := 0) (by rw [cfR_length]; omega)
  subst hA
  refine ⟨b, o, b1, o1, c, h1, h2, fun j hj => ?_⟩
  obtain ⟨b2, o2, e, hc⟩ := h3.at (k := j) (by rw [cfR_length]; exact hj)
  injection e with e
  injection e with e1 e2
  subst e1 e2
  rw [hc]
  simp only [cfR, mapN_get, fB]
/-- A table of conflicts is handed back. -/
def NewC (t : List (List Int)) (w : World) (e : Ending) (w' : World) : Prop :=
  ∃ D d, e = .returned (.slice D (conF t).length d) ∧ RdSS fB w' D (conF t) ∧ Below w.heap.size w w'
theorem conF_no {t : List (List Int)} (h : validC t = false) : conF t = [] := by simp [conF, h]
theorem conF_yes {t : List (List Int)} (h : validC t = true) : conF t = cfL t := by simp [conF, h]
theorem iValC_v (t : List (List Int)) (v : Bool) (hv : validC t = v) (T : Option Addr) (c : Nat) (w : World) (hr : RdSS fI w T t) (hn : t.length ≤ 1000000000) (hl : ∀ k, k < t.length → (gm t k).length ≤ 1000000000) :
    Calls Try.prog 53 #[.slice T t.length c] w fun e w' => e = .returned (.bool v) ∧ Below w.heap.size w w' := by rw [← hv]; exact iValC_any t T c w hr hn hl
theorem sValC_v (t : List (List Int)) (v : Bool) (hv : validC t = v) (T : Option Addr) (c : Nat) (w : World) (hr : RdSS fI w T t) (hn : t.length ≤ 1000000000) (hl : ∀ k, k < t.length → (gm t k).length ≤ 1000000000) :
    Calls Try.prog 71 #[.slice T t.length c] w fun e w' => e = .returned (.bool v) ∧ Below w.heap.size w w' := by rw [← hv]; exact sValC_any t T c w hr hn hl

theorem info_PB : (Try.prog.info? 100).map (fun i => (i.zero, i.size, i.bytes)) = some (some (Value.slice none 0 0), 1, 24) := by kernel_rfl
set_option maxHeartbeats 1600000 in
theorem sConf_any (t : List (List Int)) (T : Option Addr) (c : Nat) (w : World) (hr : RdSS fI w T t) (hn : t.length ≤ 1000000000) (hl : ∀ k, k < t.length → (gm t k).length ≤ 1000000000) :
    Calls Try.prog 85 #[.slice T t.length c] w (NewC t w) := by
  obtain ⟨i0, hi0, hz0, hz1, hz2⟩ := info_parts info_Bool
  obtain ⟨i1, hi1, hy0, hy1, hy2⟩ := info_parts info_PB
  have h0 := (OwnL.of_cap (lo := w.heap.size) fS (Blk.new w 100 #[]) (Nat.le_refl _) rfl (by simp [maxLen])).o
  have hB := (Below.refl w.heap.size w).alloc (Nat.le_refl _) (.cells #[] 100)
  have hr1 := hr.alloc (.cells #[] 100)
  go_enter Try.func85, Try.ntmps85
  cases hv : validC t with
  | false =>
    have H := Lib.hid (conF_no hv)
    clear h0
    go_wp2_with fail
    refine (sValC_v t false hv T c _ hr1 hn hl).mono ?_
    rintro e w1 ⟨rfl, v1⟩
    have hB1 := hB.trans (v1.mono hB.size)
    clear hv v1 hB hr1
    go_wp2_with fail
    go_ret
    refine ⟨none, 0, by rw [H.out]; rfl, by rw [H.out]; exact ⟨[], .inl rfl, rfl, fun k h => by simp at h⟩, hB1⟩
  | true =>
    have hg := dec_iff.mp hv
    have H := Lib.hid (conF_yes hv)
    have Hrl := Lib.hid hg.rl
    have hn1 := hg.n1
    have hn8 := hg.n2
    clear hg
    go_wp2_with fail
    refine (sValC_v t true hv T c _ hr1 hn hl).mono ?_
    rintro e w1 ⟨rfl, v1⟩
    have hB1 := hB.trans (v1.mono hB.size)
    have h1 := h0.below v1
    have hw1 := Nat.le_refl w1.heap.size
    clear hv v1 hB hr1 h0
    go_wp2_with fail
    go_loopw [3, 4] (fun v3 vi wr => ∃ k : Nat, k ≤ t.length ∧ vi = .int .i64 k ∧ (∃ C d ps, v3 = .slice C (ps : List (Option Addr × Nat × Nat)).length d ∧ OwnO fS wr w.heap.size 100 C d ps ∧ RowsG fB 4 wr w.heap.size wr.heap.size ps (cfN t k)) ∧ Below w.heap.size w wr) (fun _ vi _ => t.length - (intOf vi).toNat)
    case atStart => exact ⟨0, Nat.zero_le _, rfl, ⟨_, _, [], rfl, h1, RowsG.nil _ _ _ _ _⟩, hB1⟩
    case round =>
      clear h1 hB1 hw1
      obtain ⟨k, hk, rfl, ⟨C, d, ps, rfl, hO, hR⟩, hB⟩ := hrel
      obtain ⟨wo, hwo⟩ : ∃ wo, wo = wr := ⟨_, rfl⟩
      subst hwo
      have hpl := Lib.hid (show ps.length = k by rw [hR.1, cfN_length])
      by_cases hlt : k < t.length
      · obtain ⟨b, o, A, c', rfl, hcw, hrd⟩ := rowAt hr hlt
        rw [Hrl.out k hlt] at hcw
        have hlk := Lib.hid (Hrl.out k hlt)
        have hzw := hB.size
        have hBa := (Below.refl wo.heap.size wo).alloc (Nat.le_refl _) (.cells #[] 4)
        have hra := (OwnL.of_cap (lo := wo.heap.size) fB (Blk.new wo 4 #[]) (Nat.le_refl _) rfl (by simp [maxLen])).o
        go_wp2_with fail
        go_loopw [5, 6] (fun v5 vi wq => ∃ j : Nat, j ≤ t.length ∧ vi = .int .i64 j ∧ (∃ A1 c1 ys, v5 = .slice A1 (ys : List Bool).length c1 ∧ OwnO fB wq wo.heap.size 4 A1 c1 ys ∧ Hid (ys = cfR t k j)) ∧ Below wo.heap.size wo wq) (fun _ vi _ => t.length - (intOf vi).toNat)
        case atStart => exact ⟨0, Nat.zero_le _, rfl, ⟨_, _, [], rfl, hra, Lib.hid rfl⟩, hBa⟩
        case round =>
          clear hra hBa
          obtain ⟨j, hj, rfl, ⟨A1, c1, ys, rfl, ho, hys⟩, hBq⟩ := hrel
          have hyl : ys.length ≤ 1000 := by rw [hys.out, cfR_length]; omega
          by_cases hlt2 : j < t.length
          · obtain ⟨b2, o2, rfl, hel⟩ := elemAt hrd (k := j) (by rw [hlk.out]; exact hlt2)
            rw [show ga (gm t k) j = tc t k j from rfl] at hel
            have hBB := hB.trans (hBq.mono hzw)
            have hcell := (hBB.cell (World.block_lt_of_cell? w _ hcw)).trans hcw
            have hel2 := (hBB.cell (World.block_lt_of_cell? w _ hel)).trans hel
            have hst := Lib.hid (cfR_succ t k j)
            clear hel hBB
            have hzq := hBq.size
            have hal := ho.lt
            generalize tc t k j = x at *
            go_wp2_with (at_builtin; go_must (refine wpList_pushO rfl (.tmp 24) (.tmp 33) 100 rfl i0 _ 1 Try.underlying100 hi0 hz0 hz1 hz2 rfl rfl (ho.alloc (.cells #[.bool (decide (0 < x))] 4)) wr.heap.size (decide (0 < x)) rfl (cell_new _ _ _) rfl (by omega) (by omega) (by simp; omega) ?_); intro A3 c3 w3 ho3 hg3 hb3)
            have hB3 := below_push hzq hBq hal hg3
            go_roundw
            case rel => exact ⟨j + 1, by omega, by go_num, ⟨A3, c3, ys ++ [decide (0 < x)], by simp, ho3, Lib.hid (by rw [hst.out, hys.out])⟩, hB3⟩
            case measure => simp [intOf]; omega
          · obtain rfl : j = t.length := by omega
            have hO2 := hO.below hBq
            have hR2 := hR.below hBq
            have hal := ho.lt
            have hzq := hBq.size
            have hRs := hR2.snoc (hi' := wr.heap.size) (ho.mono hzw) hal hzq
            have hOl := hO2.lt
            have hst := Lib.hid (cfN_succ t k)
            have hBB := hB.trans (hBq.mono hzw)
            have hzB := hBB.size
            have hp8 : ps.length ≤ 100 := by rw [hpl.out]; omega
            go_wp2_with (at_builtin; go_must (refine wpList_pushO rfl (.tmp 35) (.tmp 37) 94 rfl i1 _ 24 Try.underlying94 hi1 hy0 hy1 hy2 rfl rfl (hO2.alloc (.cells #[.slice A1 ys.length c1] 100)) wr.heap.size (A1, ys.length, c1) rfl (cell_new _ _ _) rfl (by omega) (by omega) (by simp; omega) ?_); intro C3 d3 w4 hO3 hg4 hb4)
            have hR4 := (hRs.alloc (.cells #[.slice A1 ys.length c1] 100)).grown hg4 (fun i p hp => by
              obtain ⟨h1, h2, _⟩ := hRs.alloc (.cells #[.slice A1 ys.length c1] 100)
              have hi : i < (cfN t k ++ [ys]).length := by rw [← h1]; exact (List.getElem?_eq_some_iff.1 hp).1
              have h3 := (h2 i p _ hp (List.getElem?_eq_getElem hi)).2.1
              exact (sepT (hO2.alloc (.cells #[.slice A1 ys.length c1] 100)) h3 (by decide)).or)
            have hB4 := below_push hzB hBB hOl hg4
            have hsz4 : wr.heap.size ≤ w4.heap.size := by have := hg4.size; simp at this; omega
            have hR5 := hR4.mono hsz4
            go_roundw
            case rel => exact ⟨k + 1, by omega, by go_num, ⟨C3, d3, ps ++ [(A1, ys.length, c1)], by simp, hO3, by rw [hst.out, ← hys.out]; exact hR5⟩, hB4⟩
            case measure => simp [intOf]; omega
      · obtain rfl : k = t.length := by omega
        have Hpl2 := Lib.hid (show ps.length = (conF t).length by rw [hpl.out, H.out, cfL_length])
        have hfin : OwnG fB 100 4 wo w.heap.size wo.heap.size C d (cfL t) := ⟨ps, hO, fun b hb => (hO.lt b hb).2, hR⟩
        have hrd := hfin.rd
        go_wp2_with fail
        go_ret
        exact ⟨C, d, by rw [← Hpl2.out]; rfl, by rw [H.out]; exact hrd, hB⟩
end Go.Proofs.Ytcckipckgnkieaa
