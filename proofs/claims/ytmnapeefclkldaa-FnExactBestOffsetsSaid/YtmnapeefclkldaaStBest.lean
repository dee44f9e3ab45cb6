/-
  The best offsets of a street: the program's and the reference's.
-/
import Derived.Test.YtmnapeefclkldaaStBestM
namespace Go.Proofs.Ytmnapeefclkldaa
open Go.RowKit
set_option linter.unusedVariables false

theorem sBoth_v (s : St) (os : List Int) (v : Int) (hv : Hid (v = twoF s os)) (hg : Hid (GoodO s os)) (G T O : Option Addr) (c d f : Nat) (w : World) (hs : RdS w s G T) (ho : RdL fI w O os) :
    Calls Try.prog 53 #[strV s G T c d, .slice O os.length f] w fun e w' => e = .returned (.int .i64 v) ∧ Below w.heap.size w w' := by
  rw [hv.out, ← bothF_two (validO_iff.mpr hg.out)]; exact both_any s os G T O c d f w hs ho hg.out
theorem digs_v (c n : Int) (cnt : Nat) (l : List Int) (hl : Hid (l = digs c n cnt)) (w : World) (h1 : 1 ≤ c) (h2 : c ≤ 30) (hn : 0 ≤ n) (hn2 : n ≤ 30000) (hcn : cnt ≤ 3) :
    Calls Try.prog 56 #[.int .i64 n, .int .i64 c, .int .i64 cnt] w (NewS fI 3 w l) := by rw [hl.out]; exact digs_any c n cnt w h1 h2 hn hn2 hcn
theorem iTwo_w (s : St) (os : List Int) (v : Int) (hv : Hid (v = twoF s os)) (G T O : Option Addr) (c d f : Nat) (w : World) (hs : RdS w s G T) (ho : RdL fI w O os) (no : os.length ≤ 2000000) :
    Calls Try.prog 34 #[strV s G T c d, .slice O os.length f] w fun e w' => e = .returned (.int .i64 v) ∧ Below w.heap.size w w' := by rw [hv.out]; exact iTwo_any s os G T O c d f w hs ho no
theorem best_no {s : St} (h : 900 < waysF s) : bestF s = [] := by
  unfold bestF
  rw [if_neg (by simp; omega)]

set_option maxHeartbeats 3200000 in
theorem sBest_any (s : St) (G T : Option Addr) (c d : Nat) (w : World) (hs : RdS w s G T) :
    Calls Try.prog 36 #[strV s G T c d] w (NewS fI 3 w (bestF s)) := by
  have bx := Blk.new w 27 (strC s G T c d)
  replace hs := hs.alloc (.cells (strC s G T c d) 27)
  have hB := (Below.refl w.heap.size w).alloc (Nat.le_refl _) (.cells (strC s G T c d) 27)
  go_enter Try.func36, Try.ntmps36
  cases hv : validT s with
  | false =>
    have H := Lib.hid (show bestF s = [] by simp [bestF, hv])
    go_wp2_with fail
    refine (sValidT_b false s G T c d _ hv hs).mono ?_
    rintro e w1 ⟨rfl, v0⟩
    replace hB := hB.trans (v0.mono (by simp))
    clear v0 hv
    go_wp2_with fail
    go_ret
    rw [H.out]
    exact ⟨none, 0, rfl, OwnO.nil _ _ _ _, hB⟩
  | true =>
    have hg := validT_iff.mp hv
    have Hg := Lib.hid hg
    have Htl := Lib.hid hg.tl
    have hc1 := hg.c1
    have hc2 := hg.c2
    have hg1 := hg.g1
    have hg4 := hg.g2
    obtain ⟨m, hm⟩ : ∃ m : Nat, m = s.tr.length := ⟨_, rfl⟩
    have hm3 : m ≤ 3 := by have := hg.tl; omega
    have hl1 : (s.gr.length : Int) - 1 = (m : Int) := by have := hg.tl; omega
    obtain ⟨p, hp⟩ : ∃ p, p = powN s.cy m := ⟨_, rfl⟩
    have hpb := powN_bd hc1 hc2 hm3
    rw [← hp] at hpb
    obtain ⟨hp1, hp2⟩ := hpb
    have Hp := Lib.hid hp
    have Hw := Lib.hid (show waysF s = p by rw [hp, hm]; rfl)
    have Hm := Lib.hid hm
    have H := Lib.hid (show p ≤ 900 → bestF s = bestN s (p - 1).toNat from fun h => by
      have : waysF s = p := Hw.out
      simp [bestF, hv, this, h])
    obtain ⟨i0, hi0, hz0, hz1, hz2⟩ := info_parts info_Int
    have hmk := fun W => run_make_n (P := Try.prog) 22 3 i0 (Value.int .i64 (0)) Try.underlying22 hi0 hz0 hz1 rfl .i64 .i64 s.gr.length s.gr.length (Nat.le_refl _) (by omega) (by omega) W
    clear hg hm hp
    go_wp2_with fail
    refine (sValidT_b true s G T c d _ hv hs).mono ?_
    rintro e w1 ⟨rfl, v0⟩
    replace bx := bx.below v0 bx.lt
    replace hs := hs.below v0
    replace hB := hB.trans (v0.mono (by simp))
    have z1 : w.heap.size < w1.heap.size := bx.lt
    obtain ⟨k0, k1, k2⟩ := loadS bx
    clear v0 hv
    go_wp2_with fail
    refine (power_any s.cy m p Hp _ hc1 hc2 hm3).mono ?_
    rintro e w' ⟨rfl, rfl⟩
    by_cases h9 : 900 < p
    · have H2 := Lib.hid (best_no (s := s) (by rw [Hw.out]; exact h9))
      clear hmk
      go_wp2_with fail
      go_ret
      rw [H2.out]
      exact ⟨none, 0, rfl, OwnO.nil _ _ _ _, hB⟩
    replace H := Lib.hid (H.out (by omega))
    go_wp2_with fail
    clear k0 k1 k2 hmk
    have bA := Blk.new w1 3 (Array.replicate s.gr.length (Value.int .i64 0))
    have hA := (OwnL.of_blk (xs := List.replicate s.gr.length (0 : Int)) (f := fI) (lo := w.heap.size + 1) (by simpa using bA) (by omega) (by simp [maxLen]; omega)).o
    replace bx := bx.alloc (.cells (Array.replicate s.gr.length (Value.int .i64 0)) 3)
    replace hs := hs.alloc (.cells (Array.replicate s.gr.length (Value.int .i64 0)) 3)
    replace hB := hB.alloc hB.size (.cells (Array.replicate s.gr.length (Value.int .i64 0)) 3)
    clear bA
    generalize hW : w1.alloc (.cells (Array.replicate s.gr.length (Value.int .i64 0)) 3) = w2 at *
    clear hW
    have hbl := bx.lt
    have hX := Below.refl w2.heap.size w2
    go_loopw [3, 4] (fun v3 vi wr => ∃ k : Nat, 1 ≤ k ∧ (k : Int) ≤ p ∧ vi = .int .i64 k ∧ (∃ A1 c1 ys, v3 = .slice A1 ys.length c1 ∧ OwnO fI wr (w.heap.size + 1) 3 A1 c1 ys ∧ Hid (ys = bestN s (k - 1))) ∧ Below w2.heap.size w2 wr) (fun _ vi _ => (p - intOf vi).toNat)
    case atStart => exact ⟨1, by omega, by omega, rfl, ⟨_, _, List.replicate s.gr.length 0, by rw [List.length_replicate], hA, Lib.hid (by rw [← digO_zero s hc1]; rfl)⟩, hX⟩
    case round =>
      clear hA hX
      obtain ⟨k, hk1, hkp, rfl, ⟨A1, c1, ys, rfl, hA, hys⟩, hX⟩ := hrel
      obtain ⟨k0, k1, k2⟩ := loadS (bx.below hX bx.lt)
      have hyl : ys.length ≤ 4 := by rw [hys.out]; have := (bestN_good Hg.out (k - 1)).ol; omega
      have hgo := Lib.hid (show GoodO s ys by rw [hys.out]; exact bestN_good Hg.out _)
      go_wp2_with fail
      refine (power_any s.cy m p Hp _ hc1 hc2 hm3).mono ?_
      rintro e w' ⟨rfl, rfl⟩
      by_cases hlt : (k : Int) < p
      case neg =>
        have hkk : k - 1 = (p - 1).toNat := by omega
        have hfin := Lib.hid (show bestF s = ys by rw [H.out, hys.out, hkk])
        clear hkk
        go_wp2_with fail
        go_ret
        rw [hfin.out]
        exact ⟨A1, c1, rfl, hA.mono (by omega), hB.trans (hX.mono hB.size)⟩
      obtain ⟨ds, hds⟩ : ∃ ds, ds = digs s.cy (k : Int) m := ⟨_, rfl⟩
      have Hds := Lib.hid hds
      have hdl : ds.length ≤ 3 := by rw [hds, digs, digQ_length]; exact hm3
      have hdo := Lib.hid (show [0] ++ ds = digO s (k : Int) by rw [hds, Hm.out]; exact digs_cons Hg.out _)
      clear hds
      have bz := Blk.new wr 3 #[.int .i64 0]
      have hX2 := hX.alloc hX.size (.cells #[.int .i64 0] 3)
      have hA2 := hA.alloc (.cells #[.int .i64 0] 3)
      have hAl := hA.lt
      have hzr := hX.size
      obtain ⟨q0, q1, q2⟩ := loadS (bx.below hX2 bx.lt)
      go_wp2_with fail
      refine (digs_v s.cy k m ds Hds _ hc1 hc2 (by omega) (by omega) hm3).mono ?_
      rintro e w3 ⟨A3, c3, rfl, y3, v3⟩
      have h0 := OwnL.of_blk (xs := [0]) (f := fI) (lo := w.heap.size + 1) (bz.below v3 bz.lt) (by have := hX.size; omega) (by simp [maxLen])
      replace hX2 := hX2.trans (v3.mono hX2.size)
      replace hA2 := hA2.below v3
      have y3r := y3.rd
      have hz3 := hX2.size
      clear v3 y3 bz k0 k1 k2 q0 q1 q2 hX hA
      go_wp2_with (at_builtin; go_must (refine wpList_appendL rfl (.tmp 34) (.tmp 42) 22 rfl i0 _ 8 Try.underlying22 hi0 hz0 hz1 hz2 rfl rfl h0 A3 ds c3 rfl y3r (fun _ => rfl) (by simp; omega) (by omega) (by omega) ?_); intro A5 c5 w5 ho5 hg5 hb5; obtain ⟨xs, hxs⟩ : ∃ xs, xs = [0] ++ ds := ⟨_, rfl⟩; rw [← hxs] at ho5 ⊢; have hxE := Lib.hid (hxs.trans hdo.out); have hxl : xs.length ≤ 4 := (by rw [hxs]; simp; omega); clear hxs)
      have hA5 := hA2.grown hg5 (by
        cases hA : blk A1 with
        | none => exact .inl rfl
        | some b => exact .inr (by simp; have := (hAl b hA).2; omega))
      have hX5 := hX2.grown hg5 hX2.size (fun b hb => by simp at hb; have := hX2.size; omega)
      have hlo := ho5.o
      have hgx := Lib.hid (show GoodO s xs by rw [hxE.out]; exact digO_good Hg.out _)
      obtain ⟨u, hu⟩ : ∃ u, u = twoF s xs := ⟨_, rfl⟩
      obtain ⟨v, hv⟩ : ∃ v, v = twoF s ys := ⟨_, rfl⟩
      have Hu := Lib.hid hu
      have Hv := Lib.hid hv
      have Hst : Hid (bestN s k = if v < u then xs else ys) := Lib.hid (by
        obtain ⟨j, rfl⟩ : ∃ j, k = j + 1 := ⟨k - 1, by omega⟩
        rw [hu, hv, hys.out, hxE.out, bestN, Nat.add_sub_cancel])
      have hs5 := hs.below hX5
      have hr1 := hlo.rd
      have hr2 := hA5.rd
      obtain ⟨q0, q1, q2⟩ := loadS (bx.below hX5 bx.lt)
      have k0 := Grow.cell q0
      have k1 := Grow.cell q1
      have k2 := Grow.cell q2
      have hc1' := fun W (h1 : Below w5.heap.size w5 W) => sBoth_v s xs u Hu hgx G T A5 c d c5 W (hs5.below h1) (hr1.below h1)
      have hc2' := fun W (h1 : Below w5.heap.size w5 W) => sBoth_v s ys v Hv hgo G T A1 c d c1 W (hs5.below h1) (hr2.below h1)
      clear hu hv q0 q1 q2 ho5 hg5 hb5 hA2 h0 y3r hX2 hAl
      refine wp_region_grow w5 (by kernel_rfl) (by kernel_rfl) (Below.refl _ _) ?_
      repeat (go_big_quiet_step (fail))
      go_big_quiet_step ((go_at_call 53; exact grow_of (hc1' _ (Grow.h _))))
      repeat (go_big_quiet_step (fail))
      go_big_quiet_step ((go_at_call 53; exact grow_of (hc2' _ (Grow.h _))))
      repeat (go_big_quiet_step (fail))
      refine wpQuiet_nil ?_
      rintro _ ⟨z, rfl⟩
      have hX6 := hX5.trans (z.h.mono hX5.size)
      by_cases hgt : v < u
      · have H6 := hlo.below z.h
        have Hs2 : Hid (bestN s k = xs) := Lib.hid (by rw [Hst.out, if_pos hgt])
        clear hr1 hr2 hA5 hlo hc1' hc2' k0 k1 k2
        go_wp2_with fail
        go_roundw
        case rel => exact ⟨k + 1, by omega, by omega, by go_num, ⟨A5, c5, xs, rfl, H6, Lib.hid (by rw [Nat.add_sub_cancel]; exact Hs2.out.symm)⟩, hX6⟩
        case measure => simp [intOf]; omega
      · have H6 := hA5.below z.h
        have Hs2 : Hid (bestN s k = ys) := Lib.hid (by rw [Hst.out, if_neg hgt])
        clear hr1 hr2 hA5 hlo hc1' hc2' k0 k1 k2
        go_wp2_with fail
        go_roundw
        case rel => exact ⟨k + 1, by omega, by omega, by go_num, ⟨A1, c1, ys, rfl, H6, Lib.hid (by rw [Nat.add_sub_cancel]; exact Hs2.out.symm)⟩, hX6⟩
        case measure => simp [intOf]; omega

theorem cloneI_any (xs : List Int) (A : Option Addr) (cap : Nat) (w : World) (hr : RdL fI w A xs) (hn : xs.length ≤ 2000000) :
    Calls Try.prog 57 #[.slice A xs.length cap] w (NewS fI 3 w xs) := by
  obtain ⟨i0, hi0, hz0, hz1, hz2⟩ := info_parts info_Int
  have q22 : ∀ (w : World) (a : Option Addr) (n c n' c' : Nat), (binOp .eql 22 (.slice a n c) (.slice none n' c')).run Try.prog w = .ok (.bool a.isNone) w := fun w a n c n' c' => Lib.run_eql_slice_nil w _ _ a n c n' c' Try.underlying22
  cases A with
  | none =>
    obtain rfl : xs = [] := by
      rcases hr with h | ⟨b, o, h, _⟩
      · exact h
      · cases h
    simp only [List.length_nil]
    go_enter Try.func57, Try.ntmps57
    go_wp2_with fail
    go_ret
    exact ⟨none, 0, rfl, OwnO.nil _ _ _ _, Below.refl _ _⟩
  | some ad =>
    have h0 := OwnL.of_cap (lo := w.heap.size) fI (Blk.new w 3 #[]) (Nat.le_refl _) rfl (by simp [maxLen])
    go_enter Try.func57, Try.ntmps57
    go_wp2_with (at_builtin; refine wpList_appendL rfl (.tmp 5) (.tmp 6) 22 rfl i0 _ 8 Try.underlying22 hi0 hz0 hz1 hz2 rfl rfl h0 (some ad) xs cap rfl (hr.alloc _) (fun _ => rfl) (by simp; omega) (by omega) (by simp) ?_; intro A' c' w' ho hg hb)
    go_ret
    exact ⟨A', c', rfl, (by simpa using ho : OwnL fI w' w.heap.size 3 A' c' xs).o, ((Below.refl _ _).alloc (Nat.le_refl _) _).grown hg (by simp) (fun k e => by simp at e; omega)⟩

theorem digP_ga0 {s : St} {n : Int} {old : List Int} {m : Nat} (hs : 1 ≤ s.gr.length) (h0 : ga old 0 = 0) : ga (digP s n old m) 0 = 0 := by
  rw [digP, ga_mapN (by omega), if_neg (by omega), h0]
theorem own_some {α : Type} {f : α → Value} {w : World} {lo : Nat} {e : TypeId} {A : Option Addr} {c : Nat} {xs : List α} (h : OwnO f w lo e A c xs) (hl : xs.length ≠ 0) : A.isNone = false := by
  rcases h with ⟨_, rfl, _⟩ | ⟨g, o, cur, rfl, _⟩
  · exact absurd rfl hl
  · rfl
set_option maxHeartbeats 3200000 in
theorem iBest_any (s : St) (G T : Option Addr) (c d : Nat) (w : World) (hs : RdS w s G T) :
    Calls Try.prog 37 #[strV s G T c d] w (NewS fI 3 w (bestF s)) := by
  have bx := Blk.new w 27 (strC s G T c d)
  have hs0 := hs
  replace hs := hs.alloc (.cells (strC s G T c d) 27)
  have hB := (Below.refl w.heap.size w).alloc (Nat.le_refl _) (.cells (strC s G T c d) 27)
  go_enter Try.func37, Try.ntmps37
  cases hv : validT s with
  | false =>
    have H := Lib.hid (show bestF s = [] by simp [bestF, hv])
    go_wp2_with fail
    refine (iValidT_b false s G T c d _ hv hs).mono ?_
    rintro e w1 ⟨rfl, v0⟩
    replace hB := hB.trans (v0.mono (by simp))
    clear v0 hv
    go_wp2_with fail
    go_ret
    rw [H.out]
    exact ⟨none, 0, rfl, OwnO.nil _ _ _ _, hB⟩
  | true =>
    have hg := validT_iff.mp hv
    have Hg := Lib.hid hg
    have hc1 := hg.c1
    have hc2 := hg.c2
    have hg1 := hg.g1
    have hg4 := hg.g2
    have hm3 : s.tr.length ≤ 3 := by have := hg.tl; omega
    obtain ⟨p, hp⟩ : ∃ p, p = powN s.cy s.tr.length := ⟨_, rfl⟩
    have hpb := powN_bd hc1 hc2 hm3
    rw [← hp] at hpb
    obtain ⟨hp1, hp2⟩ := hpb
    have Hp := Lib.hid hp.symm
    have Hw := Lib.hid (show waysF s = p by rw [hp]; rfl)
    have H := Lib.hid (show p ≤ 900 → bestF s = bestN s (p - 1).toNat from fun h => by
      have : waysF s = p := Hw.out
      simp [bestF, hv, this, h])
    obtain ⟨i0, hi0, hz0, hz1, hz2⟩ := info_parts info_Int
    have hmk := fun W => run_make_n (P := Try.prog) 22 3 i0 (Value.int .i64 (0)) Try.underlying22 hi0 hz0 hz1 rfl .i64 .i64 s.gr.length s.gr.length (Nat.le_refl _) (by omega) (by omega) W
    have q22 : ∀ (w : World) (a : Option Addr) (n c n' c' : Nat), (binOp .eql 22 (.slice a n c) (.slice none n' c')).run Try.prog w = .ok (.bool a.isNone) w := fun w a n c n' c' => Lib.run_eql_slice_nil w _ _ a n c n' c' Try.underlying22
    clear hg hp
    go_wp2_with fail
    refine (iValidT_b true s G T c d _ hv hs).mono ?_
    rintro e w1 ⟨rfl, v0⟩
    replace bx := bx.below v0 bx.lt
    replace hs := hs.below v0
    replace hB := hB.trans (v0.mono (by simp))
    have z1 : w.heap.size < w1.heap.size := bx.lt
    obtain ⟨k0, k1, k2⟩ := loadS bx
    clear v0 hv
    go_wp2_with fail
    go_loop [3, 17] (fun v3 vi => ∃ k : Nat, k ≤ s.tr.length ∧ vi = .int .i64 k ∧ v3 = .int .i64 (powN s.cy k)) (fun _ vi => s.tr.length - (intOf vi).toNat)
    case atStart => exact ⟨0, Nat.zero_le _, rfl, rfl⟩
    case round =>
      obtain ⟨k, hk, rfl, rfl⟩ := hrel
      by_cases hlt : k < s.tr.length
      · have hb := powN_bd hc1 hc2 (k := k + 1) (by omega)
        have hst := Lib.hid (show powN s.cy (k + 1) = powN s.cy k * s.cy from rfl)
        rw [show powN s.cy (k + 1) = powN s.cy k * s.cy from rfl] at hb
        generalize powN s.cy k = q at *
        have hw : IntKind.i64.wrap (q * s.cy) = q * s.cy := IntWalk.i64_in _ (by omega)
        go_wp2_with fail
        go_round
        case rel => exact ⟨k + 1, by omega, by go_num, by rw [hst.out]⟩
        case measure => simp [intOf]; omega
      obtain rfl : k = s.tr.length := by omega
      rw [Hp.out]
      by_cases h9 : 900 < p
      · have H2 := Lib.hid (best_no (s := s) (by rw [Hw.out]; exact h9))
        clear hmk
        go_wp2_with fail
        go_ret
        rw [H2.out]
        exact ⟨none, 0, rfl, OwnO.nil _ _ _ _, hB⟩
      replace H := Lib.hid (H.out (by omega))
      go_wp2_with fail
      clear k0 k1 k2 hmk hlt
      have bA := Blk.new w1 3 (Array.replicate s.gr.length (Value.int .i64 0))
      have hA := (OwnL.of_blk (xs := List.replicate s.gr.length (0 : Int)) (f := fI) (lo := w.heap.size + 1) (by simpa using bA) (by omega) (by simp [maxLen]; omega)).o
      rw [List.length_replicate] at hA
      replace bx := bx.alloc (.cells (Array.replicate s.gr.length (Value.int .i64 0)) 3)
      replace hs := hs.alloc (.cells (Array.replicate s.gr.length (Value.int .i64 0)) 3)
      replace hB := hB.alloc hB.size (.cells (Array.replicate s.gr.length (Value.int .i64 0)) 3)
      have hOl : w1.heap.size < (w1.alloc (.cells (Array.replicate s.gr.length (Value.int .i64 0)) 3)).heap.size := by simp
      have hOw := z1
      clear bA hs
      generalize w1.alloc (.cells (Array.replicate s.gr.length (Value.int .i64 0)) 3) = w2 at *
      generalize w1.heap.size = gO at *
      clear z1
      go_loopw [4, 5, 31] (fun v4 v5 vi wr => ∃ k : Nat, (k : Int) ≤ p ∧ vi = .int .i64 k ∧ (∃ A1 c1 ys t, v4 = .slice A1 ys.length c1 ∧ v5 = .int .i64 t ∧ OwnO fI wr (w.heap.size + 1) 3 A1 c1 ys ∧ Sep (some ⟨gO, 0, none⟩) A1 ∧ Hid ((k = 0 ∧ A1 = none) ∨ (1 ≤ k ∧ ys = bestN s (k - 1) ∧ t = twoF s ys))) ∧ (∃ os, OwnO fI wr (w.heap.size + 1) 3 (some ⟨gO, 0, none⟩) s.gr.length os ∧ Hid (os.length = s.gr.length ∧ ga os 0 = 0)) ∧ Blk wr w.heap.size 27 (strC s G T c d) ∧ Below w.heap.size w wr) (fun _ _ vi _ => (p - intOf vi).toNat)
      case atStart => exact ⟨0, by omega, rfl, ⟨none, 0, [], 0, rfl, rfl, OwnO.nil _ _ _ _, Sep.none.symm, Lib.hid (.inl ⟨rfl, rfl⟩)⟩, ⟨_, hA, Lib.hid ⟨by simp, ga_rep (by omega)⟩⟩, bx, hB⟩
      case round =>
        clear hA bx hB hOl
        obtain ⟨k, hkp, rfl, ⟨A1, c1, ys, t, rfl, rfl, hA, hSep, hys⟩, ⟨os, hO, hos⟩, bx, hB⟩ := hrel
        by_cases hlt : (k : Int) < p
        case neg =>
          have hfin := Lib.hid (show bestF s = ys by
            rcases hys.out with ⟨h1, _⟩ | ⟨h1, h2, _⟩
            · omega
            · rw [H.out, h2]; congr 1; omega)
          go_wp2_with fail
          go_ret
          rw [hfin.out]
          exact ⟨A1, c1, rfl, hA.mono (by omega), hB⟩
        obtain ⟨l1, hl1⟩ : ∃ l1 : Nat, (s.gr.length : Int) - 1 = (l1 : Int) := ⟨s.gr.length - 1, by omega⟩
        have hl2 : s.gr.length = l1 + 1 := by omega
        have Hl2 := Lib.hid hl2
        clear hl2
        go_wp2_with fail
        go_loopw [8, 9] (fun v8 v9 wq => ∃ m : Nat, m ≤ l1 ∧ v9 = .int .i64 m ∧ v8 = .int .i64 (rst s.cy (k : Int) (l1 - m)) ∧ OwnO fI wq (w.heap.size + 1) 3 (some ⟨gO, 0, none⟩) s.gr.length (digP s k os m) ∧ OwnO fI wq (w.heap.size + 1) 3 A1 c1 ys ∧ Blk wq w.heap.size 27 (strC s G T c d) ∧ Below w.heap.size w wq) (fun _ v9 _ => (intOf v9).toNat)
        case atStart => exact ⟨l1, Nat.le_refl _, rfl, by rw [Nat.sub_self]; rfl, by rw [show l1 = s.gr.length - 1 by have := Hl2.out; omega, digP_start s k os hos.out.1]; exact hO, hA, bx, hB⟩
        case round =>
          clear hA hO bx hB
          obtain ⟨m, hm, rfl, rfl, hO, hA, bx, hB⟩ := hrel
          obtain ⟨k0, k1, k2⟩ := loadS bx
          cases m with
          | succ m =>
            have hml : m + 1 < s.gr.length := by have := Hl2.out; omega
            obtain ⟨g', o', e', hca, hfa, -⟩ := hO.at (k := m + 1) (by rw [digP_length]; exact hml)
            obtain ⟨rfl, rfl⟩ : gO = g' ∧ 0 = o' := by simpa using e'
            rw [Nat.zero_add] at hca hfa
            have hr := rst_bd (c := s.cy) (n := (k : Int)) hc1 (by omega) (l1 - (m + 1))
            have Hst := Lib.hid (digP_set s k os m)
            have Hrs := Lib.hid (show rst s.cy (k : Int) (l1 - m) = rst s.cy (k : Int) (l1 - (m + 1)) / s.cy by rw [show l1 - m = l1 - (m + 1) + 1 by omega]; rfl)
            have Hrd := Lib.hid (show rst s.cy (k : Int) (s.gr.length - 1 - (m + 1)) = rst s.cy (k : Int) (l1 - (m + 1)) by rw [show s.gr.length - 1 - (m + 1) = l1 - (m + 1) by have := Hl2.out; omega])
            have h5 := Lib.hid (hO.set (k := m + 1) (x := rst s.cy (k : Int) (l1 - (m + 1)) % s.cy) (by rw [digP_length]; exact hml))
            have HB := Lib.hid hB
            clear e'
            generalize fI _ = z at hca
            generalize rst s.cy (k : Int) (l1 - (m + 1)) = u at *
            obtain ⟨hr0, hr1⟩ := hr
            have hq0 : 0 ≤ u / s.cy := Int.ediv_nonneg hr0 (by omega)
            have hq1 : u / s.cy ≤ u := Int.ediv_le_self s.cy hr0
            have bx5 := bx.far (p := ⟨gO, m + 1, none⟩) (by simp; omega) (.int .i64 (u % s.cy))
            obtain ⟨m0, m1, m2⟩ := loadS bx5
            have hA5 := hA.grown (only_set (g := gO) (k := m + 1) (.int .i64 (u % s.cy))) hSep.or
            go_wp2_with fail
            have h6 := h5.out
            rw [Nat.zero_add, ← Hrd.out, Hst.out] at h6
            have hb2 := HB.out.setCell (p := ⟨gO, m + 1, none⟩) (by simp; omega) (.int .i64 (u % s.cy))
            go_roundw
            case rel => exact ⟨m, by omega, by go_num, by rw [Hrs.out], by rw [← Hrd.out]; exact h6, hA5, bx5, hb2⟩
            case measure => simp [intOf]
          | zero =>
            have h00 : ((0 : Nat) : Int) = 0 := rfl
            simp only [h00]
            obtain ⟨xs, hxs⟩ : ∃ xs, xs = digP s (k : Int) os 0 := ⟨_, rfl⟩
            rw [← hxs] at hO
            have hxE := Lib.hid (show xs = digO s (k : Int) by rw [hxs]; exact digP_end s k os hos.out.2)
            have hx0 := Lib.hid (show xs.length = s.gr.length ∧ ga xs 0 = 0 from ⟨by rw [hxs]; exact digP_length _ _ _ _, by rw [hxs]; exact digP_ga0 hg1 hos.out.2⟩)
            obtain ⟨u, hu⟩ : ∃ u, u = twoF s xs := ⟨_, rfl⟩
            have Hu := Lib.hid hu
            have hct := iTwo_w s xs u Hu G T (some ⟨gO, 0, none⟩) c d s.gr.length wr ⟨hs0.hg.below hB, hs0.ht.below hB, hs0.ng, hs0.nt⟩ hO.rd (by have := hx0.out.1; omega)
            rw [hx0.out.1] at hct
            clear hxs hu
            go_wp2_with fail
            refine hct.mono ?_
            rintro e w5 ⟨rfl, v5⟩
            have bx5 := bx.below v5 bx.lt
            have hO5 := hO.below v5
            have hA5 := hA.below v5
            have hB5 := hB.trans (v5.mono hB.size)
            have hz5 := hB5.size
            have hcl := cloneI_any xs (some ⟨gO, 0, none⟩) s.gr.length w5 hO5.rd (by have := hx0.out.1; omega)
            rw [hx0.out.1] at hcl
            clear hct v5 bx hO hA hB k0 k1 k2
            rcases hys.out with ⟨rfl, rfl⟩ | ⟨hk1, hy1, hy2⟩
            · have hnn : (none : Option Addr).isNone = true := rfl
              go_wp2_with fail
              refine hcl.mono ?_
              rintro e w6 ⟨A6, c6, rfl, y6, v6⟩
              have bx6 := bx5.below v6 bx5.lt
              have hS6 := hO5.sep y6 (Nat.le_refl _)
              have hO6 := hO5.below v6
              have hY6 := y6.mono (lo' := w.heap.size + 1) bx5.lt
              have hB6 := hB5.trans (v6.mono hz5)
              have Hfin := Lib.hid (show xs = bestN s 0 ∧ u = twoF s xs from ⟨hxE.out, Hu.out⟩)
              clear hcl v6 bx5 hO5 hA5 hB5 y6 hys
              go_wp2_with fail
              go_roundw
              case rel => exact ⟨1, by omega, by go_num, ⟨A6, c6, xs, u, rfl, rfl, hY6, hS6, Lib.hid (.inr ⟨by omega, Hfin.out⟩)⟩, ⟨xs, hO6, hx0⟩, bx6, hB6⟩
              case measure => simp [intOf]; omega
            · have hyl : ys.length ≠ 0 := by rw [hy1]; have := (bestN_good Hg.out (k - 1)).ol; omega
              have hnn := own_some hA5 hyl
              have Hst : Hid (bestN s k = if t < u then xs else ys) := Lib.hid (by
                obtain ⟨j, rfl⟩ : ∃ j, k = j + 1 := ⟨k - 1, by omega⟩
                rw [hy2, Hu.out, hy1, hxE.out, bestN, Nat.add_sub_cancel])
              have Hy2 := Lib.hid hy2
              clear hy1 hy2 hyl hys
              by_cases hgt : t < u
              · have Hs2 := Lib.hid (show bestN s k = xs by rw [Hst.out, if_pos hgt])
                go_wp2_with fail
                refine hcl.mono ?_
                rintro e w6 ⟨A6, c6, rfl, y6, v6⟩
                have bx6 := bx5.below v6 bx5.lt
                have hS6 := hO5.sep y6 (Nat.le_refl _)
                have hO6 := hO5.below v6
                have hY6 := y6.mono (lo' := w.heap.size + 1) bx5.lt
                have hB6 := hB5.trans (v6.mono hz5)
                clear hcl v6 bx5 hO5 hA5 hB5 y6
                go_wp2_with fail
                go_roundw
                case rel => exact ⟨k + 1, by omega, by go_num, ⟨A6, c6, xs, u, rfl, rfl, hY6, hS6, Lib.hid (.inr ⟨by omega, by rw [Nat.add_sub_cancel]; exact Hs2.out.symm, Hu.out⟩)⟩, ⟨xs, hO6, hx0⟩, bx6, hB6⟩
                case measure => simp [intOf]; omega
              · have Hs2 := Lib.hid (show bestN s k = ys by rw [Hst.out, if_neg hgt])
                clear hcl
                go_wp2_with fail
                go_roundw
                case rel => exact ⟨k + 1, by omega, by go_num, ⟨A1, c1, ys, t, rfl, rfl, hA5, hSep, Lib.hid (.inr ⟨by omega, by rw [Nat.add_sub_cancel]; exact Hs2.out.symm, Hy2.out⟩)⟩, ⟨xs, hO5, hx0⟩, bx5, hB5⟩
                case measure => simp [intOf]; omega
end Go.Proofs.Ytmnapeefclkldaa
