/-
  The monitor: the reference's.
-/
import Derived.Test.YtcckipckgnkieaaPlGuard
namespace Go.Proofs.Ytcckipckgnkieaa
open Go.RowKit
set_option linter.unusedVariables false

/-- One row more is appended to a slice of slices that grows. -/
theorem rows_push {w w2 w3 : World} {lo : Nat} {C : Option Addr} {d : Nat} {ps : List (Option Addr × Nat × Nat)} {css : List (List Int)} {A : Option Addr} {c : Nat} {xs : List Int} {T1 : TypeId} (hne : T1 ≠ 3)
    (hO : OwnO fS w lo T1 C d ps) (hR : RowsG fI 3 w lo w.heap.size ps css) (hb : Below w.heap.size w w2) (ho : OwnO fI w2 w.heap.size 3 A c xs) (hlo : lo ≤ w.heap.size) (o : Obj) (hg : (w2.alloc o).grownBy w3 (blk C)) :
    RowsG fI 3 w3 lo w3.heap.size (ps ++ [(A, xs.length, c)]) (css ++ [xs]) := by
  have h1 := (hR.below hb).snoc (hi' := w2.heap.size) (ho.mono hlo) (fun b h => ho.lt b h) hb.size
  have h2 := (h1.alloc o).far ((hO.below hb).alloc o) hne hg
  exact h2.mono (by have := hg.size; simp at this; omega)
set_option maxRecDepth 100000 in
set_option maxHeartbeats 1600000 in
theorem sGuard_any (t h : List (List Int)) (T C : Option Addr) (c d : Nat) (w : World) (hr : RdSS fI w T t) (hh : RdSS fI w C h) (hn : t.length ≤ 1000000000) (hl : ∀ k, k < t.length → (gm t k).length ≤ 1000000000) (hn2 : h.length ≤ 2000000) (hl2 : ∀ k, k < h.length → (gm h k).length ≤ 2000000) :
    Calls Try.prog 28 #[.slice T t.length c, .slice C h.length d] w (NewG fI 32 3 w (guardF t h)) := by
  obtain ⟨i0, hi0, hz0, hz1, hz2⟩ := info_parts info_S1I
  have h0 := (OwnL.of_cap (lo := w.heap.size) fS (Blk.new w 32 #[]) (Nat.le_refl _) rfl (by simp [maxLen])).o
  have hB := (Below.refl w.heap.size w).alloc (Nat.le_refl _) (.cells #[] 32)
  have hr1 := hr.alloc (.cells #[] 32)
  have hh1 := hh.alloc (.cells #[] 32)
  have hl3 : ∀ k, k < h.length → (gm h k).length ≤ 1000000000 := fun k hk => by have := hl2 k hk; omega
  obtain ⟨f, hf⟩ : ∃ f, f = faultF t h := ⟨_, rfl⟩
  have Hf := Lib.hid hf
  have hbd := faultF_bd (t := t) (h := h)
  rw [← hf] at hbd
  clear hf
  go_enter Try.func28, Try.ntmps28
  cases hv : validW t h with
  | false =>
    have H := Lib.hid (guard_no Hf.out (by rw [Hf.out, faultF_no hv]))
    clear h0
    go_wp2_with fail
    refine (sWatch_v t h false hv T C c d _ hr1 hh1 hn hl (by omega) hl3).mono ?_
    rintro e w1 ⟨rfl, v1⟩
    have hB1 := hB.trans (v1.mono hB.size)
    clear hv v1 hB hr1 hh1
    go_wp2_with fail
    go_ret
    refine ⟨none, 0, by rw [H.out]; rfl, by rw [H.out]; exact OwnG.nil _ _ _ _ _ _, hB1⟩
  | true =>
    have hg := dec_iff.mp hv
    have hf2 : f ≠ -2 := by
      have := faultF_yes hg ▸ fstN_bd (badB t h) h.length
      rw [Hf.out]; omega
    have H := Lib.hid (guard_eq Hf.out hf2)
    have h150 := hg.l
    clear hg
    go_wp2_with fail
    refine (sWatch_v t h true hv T C c d _ hr1 hh1 hn hl (by omega) hl3).mono ?_
    rintro e w1 ⟨rfl, v1⟩
    have hB1 := hB.trans (v1.mono hB.size)
    have h1 := h0.below v1
    clear hv v1 hB h0
    go_wp2_with fail
    refine (sFault_v t h f Hf T C c d _ (hr.below hB1) (hh.below hB1) hn hl (by omega) hl3).mono ?_
    rintro e w2 ⟨rfl, v2⟩
    have hB2 := hB1.trans (v2.mono hB1.size)
    have h2 := h1.below v2
    have hR0 := RowsG.nil fI 3 w2 w.heap.size w2.heap.size
    clear v2 hB1 h1 hr1 hh1
    go_wp2_with fail
    go_loopw [5, 7] (fun v5 vi wr => ∃ k : Nat, k ≤ h.length ∧ vi = .int .i64 k ∧ (∃ D d2 ps, v5 = .slice D (ps : List (Option Addr × Nat × Nat)).length d2 ∧ OwnO fS wr w.heap.size 32 D d2 ps ∧ RowsG fI 3 wr w.heap.size wr.heap.size ps (grdN h f k)) ∧ Below w.heap.size w wr) (fun _ vi _ => h.length - (intOf vi).toNat)
    case atStart => exact ⟨0, Nat.zero_le _, rfl, ⟨_, _, [], rfl, h2, hR0⟩, hB2⟩
    case round =>
      clear h2 hR0 hB2
      obtain ⟨k, hk, rfl, ⟨D, d2, ps, rfl, hO, hR⟩, hB⟩ := hrel
      have hpl := Lib.hid (show ps.length = k by rw [hR.1, grdN_length])
      have hp8 : ps.length ≤ 1000 := by rw [hpl.out]; omega
      have hzw := hB.size
      by_cases hlt : k < h.length
      · by_cases hkeep : f < 0 ∨ (k : Int) < f
        · obtain ⟨b, o, A, c', rfl, hcw, hrd0⟩ := rowAt hh hlt
          have hcell := (hB.cell (World.block_lt_of_cell? w _ hcw)).trans hcw
          have hrd := hrd0.below hB
          have hxl := hl2 k hlt
          clear hcw hrd0
          have Htk := Lib.hid (grdN_keep (h := h) hkeep)
          have hct := copyInts_any (gm h k) A c' wr hrd hxl
          generalize gm h k = xs at *
          have hkp : f < 0 ∨ (0 ≤ f ∧ (k : Int) < f) := by omega
          rcases hkp with hneg | ⟨hpos, hlt3⟩
          all_goals
            go_wp2_with fail
            refine hct.mono ?_
            rintro e w5 ⟨A5, c5, rfl, ho5, v5⟩
            have hO5 := hO.below v5
            have hB5 := hB.trans (v5.mono hzw)
            have hz5 := hB5.size
            have hOl := hO5.lt
            clear hct
            go_wp2_with (at_builtin; go_must (refine wpList_pushO rfl (.tmp 33) (.tmp 39) 23 rfl i0 _ 24 Try.underlying23 hi0 hz0 hz1 hz2 rfl rfl (hO5.alloc (.cells #[.slice A5 xs.length c5] 32)) w5.heap.size (A5, xs.length, c5) rfl (cell_new _ _ _) rfl (by omega) (by omega) (by simp; omega) ?_); intro C3 d3 w6 hO6 hg6 hb6)
            have hR6 := rows_push (by decide) hO hR v5 ho5.o hzw _ hg6
            have hB6 := below_push hz5 hB5 hOl hg6
            go_roundw
            case rel => exact ⟨k + 1, by omega, by go_num, ⟨C3, d3, ps ++ [(A5, xs.length, c5)], by simp, hO6, by rw [Htk.out]; exact hR6⟩, hB6⟩
            case measure => simp [intOf]; omega
        · have Htk := Lib.hid (grdN_drop (h := h) hkeep)
          have h1 : ¬ f < 0 := fun e => hkeep (.inl e)
          have h2 : ¬ (k : Int) < f := fun e => hkeep (.inr e)
          have h3 : 0 ≤ f := by omega
          have h4 : f ≤ (k : Int) := by omega
          have v5 := (Below.refl wr.heap.size wr).alloc (Nat.le_refl _) (.cells #[] 3)
          have ho5 := (OwnL.of_cap (lo := wr.heap.size) fI (Blk.new wr 3 #[]) (Nat.le_refl _) rfl (by simp [maxLen])).o
          have hO5 := hO.below v5
          have hB5 := hB.trans (v5.mono hzw)
          have hz5 := hB5.size
          have hOl := hO5.lt
          have hs5 : (wr.alloc (.cells #[] 3)).heap.size = wr.heap.size + 1 := by simp
          clear hkeep
          go_wp2_with (at_builtin; go_must (refine wpList_pushO rfl (.tmp 29) (.tmp 31) 23 rfl i0 _ 24 Try.underlying23 hi0 hz0 hz1 hz2 rfl rfl (hO5.alloc (.cells #[.slice (some ⟨wr.heap.size, 0, none⟩) 0 0] 32)) (wr.heap.size + 1) ((some ⟨wr.heap.size, 0, none⟩ : Option Addr), 0, 0) rfl (by have := cell_new (wr.alloc (.cells #[] 3)) (.slice (some ⟨wr.heap.size, 0, none⟩) 0 0) 32; rwa [hs5] at this) rfl (by omega) (by omega) (by simp; omega) ?_); intro C3 d3 w6 hO6 hg6 hb6)
          have hR6 := rows_push (by decide) hO hR v5 ho5 hzw _ hg6
          have hB6 := below_push hz5 hB5 hOl hg6
          go_roundw
          case rel => exact ⟨k + 1, by omega, by go_num, ⟨C3, d3, ps ++ [(some ⟨wr.heap.size, 0, none⟩, 0, 0)], by simp, hO6, by rw [Htk.out]; exact hR6⟩, hB6⟩
          case measure => simp [intOf]; omega
      · obtain rfl : k = h.length := by omega
        have hgw := fun b hb => (hO.lt b hb).2
        have Hl := Lib.hid (show ps.length = (guardF t h).length by rw [H.out, grdN_length, hpl.out])
        go_wp2_with fail
        go_ret
        exact ⟨D, d2, by rw [← Hl.out]; rfl, by rw [H.out]; exact ⟨ps, hO, hgw, hR⟩, hB⟩
theorem iGuard_v (t h g : List (List Int)) (hgd : Hid (g = guardF t h)) (T C : Option Addr) (c d : Nat) (w : World) (hr : RdSS fI w T t) (hh : RdSS fI w C h) (hn : t.length ≤ 1000000000) (hl : ∀ k, k < t.length → (gm t k).length ≤ 1000000000) (hn2 : h.length ≤ 2000000) (hl2 : ∀ k, k < h.length → (gm h k).length ≤ 2000000) :
    Calls Try.prog 29 #[.slice T t.length c, .slice C h.length d] w (NewG fI 32 3 w g) := by rw [hgd.out]; exact iGuard_any t h T C c d w hr hh hn hl hn2 hl2
theorem sGuard_v (t h g : List (List Int)) (hgd : Hid (g = guardF t h)) (T C : Option Addr) (c d : Nat) (w : World) (hr : RdSS fI w T t) (hh : RdSS fI w C h) (hn : t.length ≤ 1000000000) (hl : ∀ k, k < t.length → (gm t k).length ≤ 1000000000) (hn2 : h.length ≤ 2000000) (hl2 : ∀ k, k < h.length → (gm h k).length ≤ 2000000) :
    Calls Try.prog 28 #[.slice T t.length c, .slice C h.length d] w (NewG fI 32 3 w g) := by rw [hgd.out]; exact sGuard_any t h T C c d w hr hh hn hl hn2 hl2
/-- What is handed back is no longer than what came in. -/
theorem guard_le (t h : List (List Int)) : (guardF t h).length ≤ h.length ∧ ∀ k, k < (guardF t h).length → (gm (guardF t h) k).length ≤ (gm h k).length := by
  unfold guardF
  split
  · exact ⟨by simp, fun k hk => by simp at hk⟩
  · refine ⟨by rw [guardL_length]; exact Nat.le_refl _, fun k hk => ?_⟩
    rw [guardL_length] at hk
    rw [guardL, gm_mapN hk]
    split
    · exact Nat.le_refl _
    · simp
theorem tot_gm (h : List (List Int)) : tot h = ((List.range h.length).map fun k => (gm h k).length).sum := by
  unfold tot
  congr 1
  apply List.ext_getElem
  · simp
  · intro i h1 h2
    simp at h1
    simp [gm, h1]
theorem sum_le {n : Nat} {f g : Nat → Nat} (h : ∀ i, i < n → f i ≤ g i) : ((List.range n).map f).sum ≤ ((List.range n).map g).sum := by
  induction n with
  | zero => simp
  | succ n ih =>
    have h1 := ih fun i hi => h i (by omega)
    have h2 := h n (by omega)
    simp only [List.range_succ, List.map_append, List.map_cons, List.map_nil, List.sum_append, List.sum_cons, List.sum_nil]
    omega
theorem guard_tot (t h : List (List Int)) : tot (guardF t h) ≤ tot h := by
  obtain ⟨h1, h2⟩ := guard_le t h
  by_cases hf : faultF t h = -2
  · have : guardF t h = [] := by simp [guardF, hf]
    rw [this]; simp [tot]
  · have hl : (guardF t h).length = h.length := by rw [guardF_length, if_neg hf]
    rw [tot_gm, tot_gm, hl]
    exact sum_le fun i hi => h2 i (by omega)
end Go.Proofs.Ytcckipckgnkieaa
