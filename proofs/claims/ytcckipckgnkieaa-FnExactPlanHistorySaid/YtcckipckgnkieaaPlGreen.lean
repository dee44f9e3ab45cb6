/-
  The movements with green at a second, as the reference finds them.
-/
import Derived.Test.YtcckipckgnkieaaPlPlan
import Derived.Test.YtcckipckgnkieaaDrList
namespace Go.Proofs.Ytcckipckgnkieaa
open Go.RowKit
set_option linter.unusedVariables false

theorem asc_ext {l m : List Int} (hl : l.Pairwise (· < ·)) (hm : m.Pairwise (· < ·)) (h : ∀ x, x ∈ l ↔ x ∈ m) : l = m := by
  induction l generalizing m with
  | nil =>
    cases m with
    | nil => rfl
    | cons b m => exact absurd ((h b).mpr (by simp)) (by simp)
  | cons a l ih =>
    cases m with
    | nil => exact absurd ((h a).mp (by simp)) (by simp)
    | cons b m =>
      rw [List.pairwise_cons] at hl hm
      have h1 := (h a).mp (by simp)
      have h2 := (h b).mpr (by simp)
      have e : a = b := by
        rcases List.mem_cons.mp h1 with e | h1
        · exact e
        rcases List.mem_cons.mp h2 with e | h2
        · exact e.symm
        have := hm.1 a h1
        have := hl.1 b h2
        omega
      subst e
      congr 1
      refine ih hl.2 hm.2 fun x => ?_
      constructor
      · intro hx
        have := hl.1 x hx
        rcases List.mem_cons.mp ((h x).mp (List.mem_cons_of_mem _ hx)) with e | h3
        · omega
        · exact h3
      · intro hx
        have := hm.1 x hx
        rcases List.mem_cons.mp ((h x).mpr (List.mem_cons_of_mem _ hx)) with e | h3
        · omega
        · exact h3
/-- The movements below n that are in both. -/
def kpN (f g : List Int) (n : Nat) : List Int := ((List.range n).map fun (i : Nat) => (i : Int)).filter fun x => decide (x ∈ f) && decide (x ∈ g)
theorem kpN_zero (f g : List Int) : kpN f g 0 = [] := rfl
theorem kpN_yes {f g : List Int} {n : Nat} (h1 : (n : Int) ∈ f) (h2 : (n : Int) ∈ g) : kpN f g (n + 1) = kpN f g n ++ [(n : Int)] := by
  simp [kpN, List.range_succ, h1, h2]
theorem kpN_no1 {f g : List Int} {n : Nat} (h1 : (n : Int) ∉ f) : kpN f g (n + 1) = kpN f g n := by
  simp [kpN, List.range_succ, h1]
theorem kpN_no2 {f g : List Int} {n : Nat} (h1 : (n : Int) ∉ g) : kpN f g (n + 1) = kpN f g n := by
  simp [kpN, List.range_succ, h1]
theorem kpN_length (f g : List Int) (n : Nat) : (kpN f g n).length ≤ n := by
  have := List.length_filter_le (fun x => decide (x ∈ f) && decide (x ∈ g)) ((List.range n).map fun (i : Nat) => (i : Int))
  simpa [kpN] using this
theorem kpN_end {f g : List Int} {n : Nat} (hf : GoodM n f) : kpN f g n = keepL f g := by
  refine asc_ext ?_ (hf.asc.filter _) fun x => ?_
  · refine List.Pairwise.filter _ ?_
    rw [List.pairwise_map]
    exact List.pairwise_lt_range.imp fun h => by omega
  · simp only [kpN, keepL, List.mem_filter, List.mem_map, List.mem_range, Bool.and_eq_true, decide_eq_true_eq]
    constructor
    · rintro ⟨_, h1, h2⟩
      exact ⟨h1, h2⟩
    · rintro ⟨h1, h2⟩
      have := hf.bd x h1
      exact ⟨⟨x.toNat, by omega, by omega⟩, h1, h2⟩

set_option maxRecDepth 100000 in
set_option maxHeartbeats 1600000 in
theorem sGrn_any (p : Pl) (s : Int) (T S : Option Addr) (c d : Nat) (w : World) (hr : RdP w T S p) (hg : GoodP p) (h0 : 0 ≤ s) (h1 : s < cyc p) :
    Calls Try.prog 40 #[plV p T c S d, .int .i64 s] w (NewS fI 3 w (grnP p s)) := by
  obtain ⟨i0, hi0, hz0, hz1, hz2⟩ := info_parts info_Int
  have hs5 := hg.s2
  have hs1 := hg.s1
  have hn8 := hg.c.n2
  obtain ⟨hB, hb0, hb1, hlt⟩ := boxP_at w p T c S d
  obtain ⟨k, hk⟩ : ∃ k, k = stg p s := ⟨_, rfl⟩
  have hkl : k < p.sg.length := by rw [hk]; exact (stg_spec hg h0 h1).1
  obtain ⟨x, hx⟩ : ∃ x, x = s - bg p k := ⟨_, rfl⟩
  have Hout := Lib.hid (show grnP p s = grnI p k x by rw [grnP, ← hk, hx])
  have hst := fun y (hy : Below w.heap.size w y) => sStg_v p s k x hk.symm hx.symm T S c d y (hr.below hy) hg h0 h1
  have hsp := stg_spec hg h0 h1
  have hbs := bg_ge hg hkl
  have hxb : 0 ≤ x ∧ x ≤ 45 := by
    have : bg p (stg p s + 1) = bg p (stg p s) + (gr p (stg p s) + gapP p (stg p s)) := rfl
    rw [← hk] at hsp this
    omega
  obtain ⟨b, o, A, c1, rfl, e1, e1g, e2, -⟩ := hr.s k hkl
  obtain ⟨b', o', A', c2, e', e3, -, e4, -⟩ := hr.s (nx p k) (nx_lt hg k)
  obtain ⟨rfl, rfl⟩ : b = b' ∧ o = o' := by simpa using e'
  have hmod := nx_mod hg hkl
  have hnl := nx_lt hg k
  have hfm := hg.m k hkl
  have hfl := hfm.len
  have hgl := (hg.m _ hnl).len
  have Hend := Lib.hid (kpN_end (g := ph p (nx p k)) hfm)
  have hgrn : grnI p k x = if x < gr p k then ph p k else keepL (ph p k) (ph p (nx p k)) := rfl
  have Hgrn := Lib.hid hgrn
  clear hsp hk hx hg e' hfm hgrn hr h0 h1
  generalize ph p (nx p k) = g at *
  generalize ph p k = f at *
  generalize gr p k = a at *
  have hwr : IntKind.i64.wrap ((k : Int) + 1) = (k : Int) + 1 := by simp [IntKind.wrap, IntKind.bits, IntKind.signed]; omega
  have hn0 : ¬ (p.sg.length : Int) = 0 := by omega
  have hi1 : (k : Int) < (p.sg.length : Int) := by omega
  have hi2 : (nx p k : Int) < (p.sg.length : Int) := by omega
  generalize nx p k = m at *
  go_enter Try.func40, Try.ntmps40
  go_wp2_with fail
  generalize w.alloc (.cells (plC p T c (some ⟨b, o, none⟩) d) 26) = W at *
  have hstW := hst W hB
  have q1 := (hB.cell (World.block_lt_of_cell? w _ e1)).trans e1
  have q2 := (hB.cell (World.block_lt_of_cell? w _ e1g)).trans e1g
  have q3 := (hB.cell (World.block_lt_of_cell? w _ e3)).trans e3
  have r2 := e2.below hB
  have r4 := e4.below hB
  clear hst e1 e1g e3 e2 e4
  refine hstW.mono ?_
  rintro e w1 ⟨rfl, v1⟩
  have c0 := (v1.cell (World.block_lt_of_cell? W _ hb0)).trans hb0
  have c1' := (v1.cell (World.block_lt_of_cell? W _ hb1)).trans hb1
  have c2' := (v1.cell (World.block_lt_of_cell? W _ q1)).trans q1
  have c3' := (v1.cell (World.block_lt_of_cell? W _ q2)).trans q2
  have hzW := hB.size
  clear hstW
  by_cases hlt2 : x < a
  · have H := Lib.hid (show grnP p s = f by rw [Hout.out, Hgrn.out, if_pos hlt2])
    have hcp := copyInts_any f A c1 w1 (r2.below v1) (by omega)
    clear Hend Hgrn Hout q1 q2 q3 hb0 hb1
    go_wp2_with fail
    refine hcp.mono ?_
    rintro e w2 ⟨A5, c5, rfl, ho5, v5⟩
    have hzz := v1.size
    clear hcp
    go_wp2_with fail
    go_ret
    exact ⟨A5, c5, by rw [H.out]; rfl, by rw [H.out]; exact ho5.o.mono (by omega), (hB.trans (v1.mono hzW)).trans (v5.mono (by omega))⟩
  · have H := Lib.hid (show grnP p s = kpN f g p.tb.length by rw [Hout.out, Hgrn.out, if_neg hlt2, Hend.out])
    have hlt3 : a ≤ x := by omega
    clear Hend Hgrn Hout hlt2
    have k0 := Grow.cell hb0
    have k1 := Grow.cell hb1
    have k3 := Grow.cell q3
    go_wp2_with fail
    refine wp_region_grow W (by kernel_rfl) (by kernel_rfl) v1 ?_
    repeat (go_big_quiet_step (fail))
    refine wpQuiet_nil ?_
    rintro _ ⟨z, rfl⟩
    clear k0 k1 k3 c0 c1' c2' c3'
    have h0 := (OwnL.of_cap (lo := W.heap.size) fI (Blk.new z.x 3 #[]) z.h.size rfl (by simp [maxLen])).o
    have hB1 := z.h.alloc z.h.size (.cells #[] 3)
    go_wp2_with fail
    clear v1
    generalize z.x.alloc (.cells #[] 3) = w2 at *
    go_loopw [8, 9] (fun v8 vi wr => ∃ j : Nat, j ≤ p.tb.length ∧ vi = .int .i64 j ∧ (∃ D d2 ys, v8 = .slice D (ys : List Int).length d2 ∧ ys = kpN f g j ∧ OwnO fI wr W.heap.size 3 D d2 ys) ∧ Below W.heap.size W wr) (fun _ vi _ => p.tb.length - (intOf vi).toNat)
    case atStart => exact ⟨0, Nat.zero_le _, rfl, ⟨_, _, [], rfl, rfl, h0⟩, hB1⟩
    case round =>
      clear h0 hB1
      obtain ⟨j, hj, rfl, ⟨D, d2, ys, rfl, hys, hO⟩, hW⟩ := hrel
      have hyl : ys.length ≤ 8 := by rw [hys]; have := kpN_length f g j; omega
      have Hys := Lib.hid hys
      have c0 := (hW.cell (World.block_lt_of_cell? W _ hb0)).trans hb0
      have c1' := (hW.cell (World.block_lt_of_cell? W _ hb1)).trans hb1
      have c2' := (hW.cell (World.block_lt_of_cell? W _ q1)).trans q1
      have hzr := hW.size
      clear hys
      by_cases hltj : j < p.tb.length
      · have hin1 := fun v hv => isIn_v f (j : Int) v hv A c1 wr (r2.below hW) (by omega)
        have hin2 := fun v hv y (hy : Below W.heap.size W y) => isIn_v g (j : Int) v hv A' c2 y (r4.below hy) (by omega)
        by_cases m1 : (j : Int) ∈ f
        · have hin1' := hin1 true (decide_eq_true m1)
          by_cases m2 : (j : Int) ∈ g
          · have hin2' := hin2 true (decide_eq_true m2)
            have Hk := Lib.hid (kpN_yes m1 m2)
            clear hin1 hin2 m1 m2
            go_wp2_with fail
            refine hin1'.mono ?_
            rintro e w3 ⟨rfl, v3⟩
            have hW3 := hW.trans (v3.mono hzr)
            have hO3 := hO.below v3
            have hz3 := hW3.size
            have hct2 := hin2' w3 hW3
            clear hin1' hin2' v3 hO hW c0 c1' c2'
            go_wp2_with fail
            refine hct2.mono ?_
            rintro e w4 ⟨rfl, v4⟩
            have hW4 := hW3.trans (v4.mono hz3)
            have hO4 := hO3.below v4
            have hz4 := hW4.size
            have hOl := hO4.lt
            clear hct2 v4 hO3 hW3
            go_wp2_with (at_builtin; go_must (refine wpList_pushO rfl (.tmp 63) (.tmp 65) 32 rfl i0 _ 8 Try.underlying32 hi0 hz0 hz1 hz2 rfl rfl (hO4.alloc (.cells #[.int .i64 (j : Int)] 3)) w4.heap.size (j : Int) rfl (cell_new _ _ _) rfl (by omega) (by omega) (by simp; omega) ?_); intro D3 d3 w5 hO5 hg5 hb5)
            have hW5 := below_push hz4 hW4 hOl hg5
            go_roundw
            case rel => exact ⟨j + 1, by omega, by go_num, ⟨D3, d3, ys ++ [(j : Int)], by simp, by rw [Hk.out, Hys.out], hO5⟩, hW5⟩
            case measure => simp [intOf]; omega
          · have hin2' := hin2 false (decide_eq_false m2)
            have Hk := Lib.hid (kpN_no2 (f := f) m2)
            clear hin1 hin2 m1 m2
            go_wp2_with fail
            refine hin1'.mono ?_
            rintro e w3 ⟨rfl, v3⟩
            have hW3 := hW.trans (v3.mono hzr)
            have hO3 := hO.below v3
            have hz3 := hW3.size
            have hct2 := hin2' w3 hW3
            clear hin1' hin2' v3 hO hW c0 c1' c2'
            go_wp2_with fail
            refine hct2.mono ?_
            rintro e w4 ⟨rfl, v4⟩
            have hW4 := hW3.trans (v4.mono hz3)
            have hO4 := hO3.below v4
            clear hct2 v4 hO3 hW3
            go_wp2_with fail
            go_roundw
            case rel => exact ⟨j + 1, by omega, by go_num, ⟨D, d2, ys, rfl, by rw [Hk.out, Hys.out], hO4⟩, hW4⟩
            case measure => simp [intOf]; omega
        · have hin1' := hin1 false (decide_eq_false m1)
          have Hk := Lib.hid (kpN_no1 (g := g) m1)
          clear hin1 hin2 m1
          go_wp2_with fail
          refine hin1'.mono ?_
          rintro e w3 ⟨rfl, v3⟩
          have hW3 := hW.trans (v3.mono hzr)
          have hO3 := hO.below v3
          clear hin1' v3 hO hW c0 c1' c2'
          go_wp2_with fail
          go_roundw
          case rel => exact ⟨j + 1, by omega, by go_num, ⟨D, d2, ys, rfl, by rw [Hk.out, Hys.out], hO3⟩, hW3⟩
          case measure => simp [intOf]; omega
      · obtain rfl : j = p.tb.length := by omega
        have Hl := Lib.hid (show ys = grnP p s by rw [H.out, Hys.out])
        go_wp2_with fail
        go_ret
        exact ⟨D, d2, by rw [← Hl.out]; rfl, by rw [← Hl.out]; exact hO.mono (by omega), hB.trans (hW.mono hzW)⟩
end Go.Proofs.Ytcckipckgnkieaa
