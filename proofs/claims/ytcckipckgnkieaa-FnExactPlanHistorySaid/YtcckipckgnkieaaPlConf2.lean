/-
  The table of conflicts: the program's; phases that are valid.
-/
import Derived.Test.YtcckipckgnkieaaPlConf
namespace Go.Proofs.Ytcckipckgnkieaa
open Go.RowKit
set_option linter.unusedVariables false

/-- A row of conflicts of which the first j are written. -/
def cfK (t : List (List Int)) (a j : Nat) : List Bool := mapN t.length fun b => if b < j then decide (0 < tc t a b) else false
theorem cfK_length (t : List (List Int)) (a j : Nat) : (cfK t a j).length = t.length := mapN_length _ _
theorem cfK_zero (t : List (List Int)) (a : Nat) : cfK t a 0 = List.replicate t.length false := by
  apply List.ext_getElem
  · rw [cfK_length, List.length_replicate]
  · intro i h1 h2
    simp only [cfK]
    rw [mapN_get, if_neg (by omega), List.getElem_replicate]
theorem cfK_set (t : List (List Int)) (a j : Nat) : (cfK t a j).set j (decide (0 < tc t a j)) = cfK t a (j + 1) := by
  unfold cfK
  rw [mapN_set]
  refine mapN_congr fun i hi => ?_
  by_cases e : i = j
  · subst e; simp
  · rw [if_neg e]
    by_cases h : i < j
    · rw [if_pos h, if_pos (by omega)]
    · rw [if_neg h, if_neg (by omega)]
theorem cfK_end (t : List (List Int)) (a : Nat) : cfK t a t.length = cfR t a t.length := mapN_congr fun i hi => by rw [if_pos hi]
theorem fill_get {ps : List (Option Addr × Nat × Nat)} {n k : Nat} (hk : ps.length = k) (p : Option Addr × Nat × Nat) (h : k < ((ps ++ [p]) ++ List.replicate (n - (k + 1)) ((none : Option Addr), 0, 0)).length) :
    ((ps ++ [p]) ++ List.replicate (n - (k + 1)) ((none : Option Addr), 0, 0))[k] = p := by
  subst hk
  simp
theorem run_make_b (n : Nat) (hn : n ≤ 1000) (w : World) : (Instr.makeSlice 100 (.int .i64 (n : Int)) (.int .i64 (n : Int))).run Try.prog w = .ok (.slice (some ⟨w.heap.size, 0, none⟩) n n) (w.alloc (.cells (List.replicate n (Value.bool false)).toArray 4)) := by
  obtain ⟨i0, hi0, hz0, hz1, hz2⟩ := info_parts info_Bool
  exact run_make_n (P := Try.prog) 100 4 i0 (Value.bool false) Try.underlying100 hi0 hz0 hz1 rfl .i64 .i64 n n (Nat.le_refl _) (by omega) (by omega) w

set_option maxHeartbeats 3200000 in
theorem iConf_any (t : List (List Int)) (T : Option Addr) (c : Nat) (w : World) (hr : RdSS fI w T t) (hn : t.length ≤ 1000000000) (hl : ∀ k, k < t.length → (gm t k).length ≤ 1000000000) :
    Calls Try.prog 90 #[.slice T t.length c] w (NewC t w) := by
  go_enter Try.func90, Try.ntmps90
  cases hv : validC t with
  | false =>
    have H := Lib.hid (conF_no hv)
    go_wp2_with fail
    refine (iValC_v t false hv T c _ hr hn hl).mono ?_
    rintro e w1 ⟨rfl, v1⟩
    clear hv
    go_wp2_with fail
    go_ret
    refine ⟨none, 0, by rw [H.out]; rfl, by rw [H.out]; exact ⟨[], .inl rfl, rfl, fun k h => by simp at h⟩, v1⟩
  | true =>
    have hg := dec_iff.mp hv
    have H := Lib.hid (conF_yes hv)
    have Hrl := Lib.hid hg.rl
    have hn1 := hg.n1
    have hn8 := hg.n2
    obtain ⟨i1, hi1, hy0, hy1, hy2⟩ := info_parts info_PB
    have hmk := fun W => run_make_n (P := Try.prog) 94 100 i1 (Value.slice none 0 0) Try.underlying94 hi1 hy0 hy1 rfl .i64 .i64 t.length t.length (Nat.le_refl _) (by omega) (by omega) W
    have hmb := fun W => run_make_b t.length (by omega) W
    clear hg
    go_wp2_with fail
    refine (iValC_v t true hv T c _ hr hn hl).mono ?_
    rintro e w1 ⟨rfl, v1⟩
    clear hv
    have hz1 := v1.size
    have bA := Blk.new w1 100 (Array.replicate t.length (Value.slice none 0 0))
    have hA := (OwnL.of_blk (xs := List.replicate t.length ((none : Option Addr), 0, 0)) (f := fS) (lo := w.heap.size) (by simpa [fS] using bA) hz1 (by simp [maxLen]; omega)).o
    rw [List.length_replicate] at hA
    have hB := v1.alloc hz1 (.cells (Array.replicate t.length (Value.slice none 0 0)) 100)
    go_wp2_with fail
    have hA0 : OwnO fS (w1.alloc (.cells (Array.replicate t.length (Value.slice none 0 0)) 100)) w.heap.size 100 (some ⟨w1.heap.size, 0, none⟩) t.length ([] ++ List.replicate (t.length - 0) (none, 0, 0)) := hA
    clear bA hA v1 hmk
    have hgl : w1.heap.size < (w1.alloc (.cells (Array.replicate t.length (Value.slice none 0 0)) 100)).heap.size := by simp
    generalize w1.alloc (.cells (Array.replicate t.length (Value.slice none 0 0)) 100) = w2 at *
    generalize w1.heap.size = gC at *
    have hR0 := RowsG.nil fB 4 w2 w.heap.size w2.heap.size
    go_loopw [16] (fun vi wr => ∃ k : Nat, k ≤ t.length ∧ vi = .int .i64 k ∧ (∃ ps, OwnO fS wr w.heap.size 100 (some ⟨gC, 0, none⟩) t.length (ps ++ List.replicate (t.length - k) (none, 0, 0)) ∧ RowsG fB 4 wr w.heap.size wr.heap.size ps (cfN t k)) ∧ Below w.heap.size w wr) (fun vi _ => t.length - (intOf vi).toNat)
    case atStart => exact ⟨0, Nat.zero_le _, rfl, ⟨[], hA0, hR0⟩, hB⟩
    case round =>
      clear hA0 hR0 hB
      obtain ⟨k, hk, rfl, ⟨ps, hO, hR⟩, hB⟩ := hrel
      obtain ⟨wo, hwo⟩ : ∃ wo, wo = wr := ⟨_, rfl⟩
      subst hwo
      by_cases hlt : k < t.length
      · obtain ⟨b, o, A, c', rfl, hcw, hrd⟩ := rowAt hr hlt
        rw [Hrl.out k hlt] at hcw
        have hlk := Lib.hid (Hrl.out k hlt)
        have hcell := (hB.cell (World.block_lt_of_cell? w _ hcw)).trans hcw
        have hpl := Lib.hid (show ps.length = k by rw [hR.1, cfN_length])
        have hzw := hB.size
        have hkl : k < (ps ++ List.replicate (t.length - k) ((none : Option Addr), 0, 0)).length := by have := hpl.out; simp; omega
        obtain ⟨g', o', e', hca, hfa, -, hgC⟩ := (hO.alloc (.cells (Array.replicate t.length (Value.bool false)) 4)).at hkl
        obtain ⟨rfl, rfl⟩ : gC = g' ∧ 0 = o' := by simpa using e'
        rw [Nat.zero_add] at hca hfa
        have hgo := (hO.lt gC rfl).2
        have hs0 := hO.set (k := k) (x := (some ⟨wo.heap.size, 0, none⟩, t.length, t.length)) hkl
        rw [fill_ss hpl.out hlt, Nat.zero_add] at hs0
        have hs := hs0.alloc (.cells (Array.replicate t.length (Value.bool false)) 4)
        have bR := Blk.new (wo.setCell ⟨gC, k, none⟩ (fS (some ⟨wo.heap.size, 0, none⟩, t.length, t.length))) 4 (Array.replicate t.length (Value.bool false))
        have hss : (wo.setCell ⟨gC, k, none⟩ (fS (some ⟨wo.heap.size, 0, none⟩, t.length, t.length))).heap.size = wo.heap.size := by simp
        rw [hss] at bR
        have hrow := (OwnL.of_blk (xs := List.replicate t.length false) (f := fB) (lo := wo.heap.size) (by simpa using bR) (Nat.le_refl _) (by simp [maxLen]; omega)).o
        rw [List.length_replicate, ← cfK_zero t k] at hrow
        have hB2 := (hB.setCell (p := ⟨gC, k, none⟩) (hO.lt gC rfl).1 (fS (some ⟨wo.heap.size, 0, none⟩, t.length, t.length))).alloc (by rw [hss]; exact hzw) (.cells (Array.replicate t.length (Value.bool false)) 4)
        have hR2 := (hR.grown (only_set (w := wo) (g := gC) (k := k) (fS (some ⟨wo.heap.size, 0, none⟩, t.length, t.length))) (fun i p hp => by
          obtain ⟨h1, h2, _⟩ := hR
          have hi : i < (cfN t k).length := by rw [← h1]; exact (List.getElem?_eq_some_iff.1 hp).1
          have h3 := (h2 i p _ hp (List.getElem?_eq_getElem hi)).2.1
          exact (sepT hO h3 (by decide)).or)).alloc (.cells (Array.replicate t.length (Value.bool false)) 4)
        have HO := Lib.hid hs
        have HR := Lib.hid hR2
        have HW := Lib.hid hrow
        have HB := Lib.hid hB2
        have hsz3 : ((wo.setCell ⟨gC, k, none⟩ (fS (some ⟨wo.heap.size, 0, none⟩, t.length, t.length))).alloc (.cells (Array.replicate t.length (Value.bool false)) 4)).heap.size = wo.heap.size + 1 := by simp
        have Hsz3 := Lib.hid hsz3
        generalize fS _ = z at hca
        clear hO hR hs hs0 hrow hB2 hR2 bR e' hkl hsz3 hss
        go_wp2_with fail
        have hO3 := HO.out
        have hR3 := HR.out
        have hW3 := HW.out
        have hB3 := HB.out
        have hsz := Hsz3.out
        clear HO HR HW HB Hsz3 hca hfa hcell
        simp only [fS] at hO3 hR3 hW3 hB3 hsz
        generalize (wo.setCell ⟨gC, k, none⟩ (.slice (some ⟨wo.heap.size, 0, none⟩) t.length t.length)).alloc (.cells (Array.replicate t.length (Value.bool false)) 4) = w3 at *
        have hgo3 : wo.heap.size ≠ gC := by omega
        generalize hgR : wo.heap.size = gR at *
        go_loopw [29] (fun vi wr => ∃ j : Nat, j ≤ t.length ∧ vi = .int .i64 j ∧ OwnO fB wr gR 4 (some ⟨gR, 0, none⟩) t.length (cfK t k j) ∧ OwnO fS wr w.heap.size 100 (some ⟨gC, 0, none⟩) t.length ((ps ++ [(some ⟨gR, 0, none⟩, t.length, t.length)]) ++ List.replicate (t.length - (k + 1)) (none, 0, 0)) ∧ RowsG fB 4 wr w.heap.size gR ps (cfN t k) ∧ Below w.heap.size w wr ∧ wr.heap.size = gR + 1) (fun vi _ => t.length - (intOf vi).toNat)
        case atStart => exact ⟨0, Nat.zero_le _, rfl, hW3, hO3, hR3, hB3, hsz⟩
        case round =>
          clear hW3 hO3 hR3 hB3 hsz
          obtain ⟨j, hj, rfl, hW, hO, hR, hB5, hsz⟩ := hrel
          have Hsz := Lib.hid hsz
          clear hsz
          by_cases hlt2 : j < t.length
          · obtain ⟨b2, o2, rfl, hel⟩ := elemAt hrd (k := j) (by rw [hlk.out]; exact hlt2)
            rw [show ga (gm t k) j = tc t k j from rfl] at hel
            have hel2 := (hB5.cell (World.block_lt_of_cell? w _ hel)).trans hel
            have hkl : k < ((ps ++ [((some ⟨gR, 0, none⟩ : Option Addr), t.length, t.length)]) ++ List.replicate (t.length - (k + 1)) ((none : Option Addr), 0, 0)).length := by have := hpl.out; simp; omega
            obtain ⟨g', o', e', hca, -⟩ := hO.at hkl
            obtain ⟨rfl, rfl⟩ : gC = g' ∧ 0 = o' := by simpa using e'
            rw [Nat.zero_add, fill_get hpl.out] at hca
            simp only [fS] at hca
            obtain ⟨g2, p2, e2, hcr, hfr, -⟩ := hW.at (k := j) (by rw [cfK_length]; exact hlt2)
            obtain ⟨rfl, rfl⟩ : gR = g2 ∧ 0 = p2 := by simpa using e2
            rw [Nat.zero_add] at hcr hfr
            have hst := Lib.hid (cfK_set t k j)
            have hW6 := Lib.hid (hW.set (k := j) (x := decide (0 < tc t k j)) (by rw [cfK_length]; exact hlt2))
            generalize tc t k j = x at *
            have hO6 := Lib.hid (hO.grown (only_set (w := wr) (g := gR) (k := j) (.bool (decide (0 < x)))) (sepT hO hW (by decide)).symm.or)
            have hR6 := Lib.hid (hR.block (w' := wr.setCell ⟨gR, j, none⟩ (.bool (decide (0 < x)))) (fun b1 h1 h2 => Below.heap_setCell wr ⟨gR, j, none⟩ _ b1 (by simp; omega)))
            have hB6 := Lib.hid (hB5.setCell (p := ⟨gR, j, none⟩) (by simp; omega) (.bool (decide (0 < x))))
            have hs6 := Lib.hid (show (wr.setCell ⟨gR, j, none⟩ (.bool (decide (0 < x)))).heap.size = gR + 1 by simp; exact Hsz.out)
            generalize fB _ = z at hcr
            clear hel hW hO hR hB5 e' e2 hkl
            go_wp2_with fail
            have h6 := hW6.out
            rw [Nat.zero_add, hst.out] at h6
            go_roundw
            case rel => exact ⟨j + 1, by omega, by go_num, h6, hO6.out, hR6.out, hB6.out, hs6.out⟩
            case measure => simp [intOf]; omega
          · obtain rfl : j = t.length := by omega
            have hst := Lib.hid (cfN_succ t k)
            rw [cfK_end] at hW
            have hW7 : OwnO fB wr w.heap.size 4 (some ⟨gR, 0, none⟩) t.length (cfR t k t.length) := hW.mono (by omega)
            have hRs := Lib.hid (hR.snoc (hi' := gR + 1) hW7 (fun b1 e => by simp at e; omega) (by omega))
            clear hW hW7 hR
            go_wp2_with fail
            go_roundw
            case rel => exact ⟨k + 1, by omega, by go_num, ⟨ps ++ [(some ⟨gR, 0, none⟩, t.length, t.length)], hO, by rw [hst.out, Hsz.out]; have := hRs.out; rwa [cfR_length] at this⟩, hB5⟩
            case measure => simp [intOf]; omega
      · obtain rfl : k = t.length := by omega
        have hfin : OwnG fB 100 4 wo w.heap.size wo.heap.size (some ⟨gC, 0, none⟩) t.length (cfL t) := ⟨ps, by simpa using hO, fun b hb => (hO.lt b hb).2, hR⟩
        have hrd := hfin.rd
        have Hpl2 := Lib.hid (show t.length = (conF t).length by rw [H.out, cfL_length])
        go_wp2_with fail
        go_ret
        exact ⟨some ⟨gC, 0, none⟩, t.length, by rw [← Hpl2.out]; rfl, by rw [H.out]; exact hrd, hB⟩
end Go.Proofs.Ytcckipckgnkieaa
