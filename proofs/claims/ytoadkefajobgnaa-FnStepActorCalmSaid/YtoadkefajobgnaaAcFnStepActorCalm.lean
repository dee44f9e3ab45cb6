/-
  The statement FnStepActorCalm.
-/
import Derived.Test.YtoadkefajobgnaaOpen
import Derived.Test.YtoadkefajobgnaaAcStepA
import Derived.Test.YtoadkefajobgnaaAcEx
import Derived.Test.YtoadkefajobgnaaAcDraw2
import Derived.Test.YtoadkefajobgnaaAcLaw
import Derived.Test.YtoadkefajobgnaaRegF
namespace Go.Proofs.Ytoadkefajobgnaa.FnStepActorCalm
open Go.RowKit Go.ChangeShapes Go.WideShapes Go.ChangeAt Go.Proofs.Ytoadkefajobgnaa
set_option linter.unusedVariables false

theorem stepG_len {a : Ctl} {cars : List Bool} : (stepG a cars).wa.length ≤ 5 := by
  unfold stepG
  split
  · rename_i h
    obtain ⟨hg, hl⟩ := okA_good h
    have h1 := step_wa hg hl
    have := hg.wa
    have := hg.st
    omega
  · simp [zeroA]

set_option maxHeartbeats 6400000 in
theorem walk (A : Option Addr) (len cap : Nat) (w : World) (h : Bytes w A len) (hc : len ≤ cap) :
    Calls Try.prog 8 #[.slice A len cap] w fun e w' => e = .returned (.bool true) ∧ Below w.heap.size w w' := by
  by_cases hl1 : 1048576 < len
  · go_enter Try.func8, Try.ntmps8
    go_wp2_with fail
    go_ret
    exact ⟨rfl, Below.refl _ _⟩
  go_enter Try.func8, Try.ntmps8
  go_wp2_with fail
  refine (drawSt_any _ A len cap h hc).mono ?_
  rintro e w1 ⟨a, A1, c1, C, d, cars, rfl, ⟨ha1, ha2, ha3⟩, hcl, hr, hcr, hB⟩
  clear h
  go_wp2_with fail
  have ba := Blk.new w1 27 (acC a A1 c1)
  replace hr := hr.alloc (.cells (acC a A1 c1) 27)
  replace hcr := hcr.alloc (.cells (acC a A1 c1) 27)
  replace hB := hB.alloc hB.size (.cells (acC a A1 c1) 27)
  generalize w1.alloc (.cells (acC a A1 c1) 27) = w2 at *
  generalize w1.heap.size = ga at *
  refine (iStepG_any a cars A1 C c1 d _ hr hcr).mono ?_
  rintro e w3 ⟨A5, c5, rfl, h5, v0⟩
  replace ba := ba.below v0 ba.lt
  replace hr := hr.below v0
  replace hcr := hcr.below v0
  replace hB := hB.trans (v0.mono hB.size)
  clear v0
  go_wp2_with fail
  have bb := Blk.new w3 27 (acC (stepG a cars) A5 c5)
  replace ba := ba.alloc (.cells (acC (stepG a cars) A5 c5) 27)
  replace hr := hr.alloc (.cells (acC (stepG a cars) A5 c5) 27)
  replace hcr := hcr.alloc (.cells (acC (stepG a cars) A5 c5) 27)
  replace h5 := h5.alloc (.cells (acC (stepG a cars) A5 c5) 27)
  replace hB := hB.alloc hB.size (.cells (acC (stepG a cars) A5 c5) 27)
  have hR := stepG_len (a := a) (cars := cars)
  generalize w3.alloc (.cells (acC (stepG a cars) A5 c5) 27) = w4 at *
  generalize w3.heap.size = gb_ at *
  obtain ⟨S, hS⟩ : ∃ S : World → Prop, S = fun x => Blk x ga 27 (acC a A1 c1) ∧ Blk x gb_ 27 (acC (stepG a cars) A5 c5) := ⟨_, rfl⟩
  have hS1 : ∀ x, S x → Blk x ga 27 (acC a A1 c1) := fun x h => by rw [hS] at h; exact h.1
  have hS2 : ∀ x, S x → Blk x gb_ 27 (acC (stepG a cars) A5 c5) := fun x h => by rw [hS] at h; exact h.2
  have hS3 : ∀ x, Blk x ga 27 (acC a A1 c1) → Blk x gb_ 27 (acC (stepG a cars) A5 c5) → S x := fun x h1 h2 => by rw [hS]; exact ⟨h1, h2⟩
  obtain ⟨k0, k1, k2, k3, k4, k5⟩ := held_cells hS1
  obtain ⟨j0, j1, j2, j3, j4, j5⟩ := held_cells hS2
  have HS3 := Lib.hid hS3
  clear hS hS1 hS2 hS3
  cases hv : validA a with
  | false =>
    have hk5 := h5
    refine wp_region_mix S [(0, 0), (0, 1), (0, 2), (1, 3), (1, 4), (0, 5), (0, 6), (0, 7), (1, 8), (0, 9), (0, 10)] [] (by kernel_rfl) (by kernel_rfl) (HS3.out _ ba.drew bb.drew) ?_
    intro hne0
    simp only [mixOps, List.filterMap_cons, List.filterMap_nil, List.getElem?_toArray, List.getElem?_cons_zero, List.getElem?_cons_succ, Option.map_some]
    replace ba := ba.drew
    replace bb := bb.drew
    replace hB := hB.drew
    replace hr := hr.drew
    replace hcr := hcr.drew
    replace h5 := h5.drew
    generalize w4.drew = w11 at *
    repeat (refine mix_early (fun K hK => ?_); go_simp; refine hK _ ?_; clear hK K)
    refine mix_late rfl (fun K hK => ?_)
    go_wp2_with fail
    refine (sStepG_any a cars A1 C c1 d _ hr hcr).mono ?_
    rintro e w12 ⟨A6, c6, rfl, h6, v0⟩
    replace ba := ba.below v0 ba.lt
    replace bb := bb.below v0 bb.lt
    replace hr := hr.below v0
    replace hcr := hcr.below v0
    replace h5 := h5.below v0
    replace hB := hB.trans (v0.mono hB.size)
    clear v0
    go_wp2_with fail
    refine ⟨HS3.out _ ba bb, ?_⟩
    refine mix_late rfl (fun K hK => ?_)
    go_wp2_with fail
    refine (equalActor_same (stepG a cars) A5 A6 c5 c6 _ h5.rd h6.rd (by omega)).mono ?_
    rintro e w13 ⟨rfl, v0⟩
    clear h6
    replace ba := ba.below v0 ba.lt
    replace bb := bb.below v0 bb.lt
    replace hr := hr.below v0
    replace hcr := hcr.below v0
    replace h5 := h5.below v0
    replace hB := hB.trans (v0.mono hB.size)
    clear v0
    go_wp2_with fail
    refine ⟨HS3.out _ ba bb, ?_⟩
    repeat (refine mix_early (fun K hK => ?_); go_simp; refine hK _ ?_; clear hK K)
    refine mix_lateG (by rfl) (fun K hK => ?_)
    go_wp2_with fail
    refine (iValidA_any a A1 c1 _).mono ?_
    rw [hv]
    rintro e w14 ⟨rfl, v0⟩
    replace ba := ba.below v0 ba.lt
    replace bb := bb.below v0 bb.lt
    replace hr := hr.below v0
    replace hcr := hcr.below v0
    replace h5 := h5.below v0
    replace hB := hB.trans (v0.mono hB.size)
    clear v0
    go_wp2_with fail
    refine ⟨HS3.out _ ba bb, ?_⟩
    repeat (refine mix_early (fun K hK => ?_); go_simp; refine hK _ ?_; clear hK K)
    refine mix_nil ?_
    simp only [tailT, List.filterMap_nil]
    refine wpLateC_nil (NoPanic.normal ?_)
    go_wp2_with fail
    refine wp_region_mix S [(0, 0), (0, 1), (0, 2), (1, 3), (1, 4), (0, 5)] [] (by kernel_rfl) (by kernel_rfl) (HS3.out _ ba.drew bb.drew) ?_
    intro hne0
    simp only [mixOps, List.filterMap_cons, List.filterMap_nil, List.getElem?_toArray, List.getElem?_cons_zero, List.getElem?_cons_succ, Option.map_some]
    replace ba := ba.drew
    replace bb := bb.drew
    replace hB := hB.drew
    replace hr := hr.drew
    replace hcr := hcr.drew
    replace h5 := h5.drew
    generalize w14.drew = w15 at *
    repeat (refine mix_early (fun K hK => ?_); go_simp; refine hK _ ?_; clear hK K)
    refine mix_late rfl (fun K hK => ?_)
    go_wp2_with fail
    refine (sStepG_any a cars A1 C c1 d _ hr hcr).mono ?_
    rintro e w16 ⟨A6, c6, rfl, h6, v0⟩
    replace ba := ba.below v0 ba.lt
    replace bb := bb.below v0 bb.lt
    replace hr := hr.below v0
    replace hcr := hcr.below v0
    replace h5 := h5.below v0
    replace hB := hB.trans (v0.mono hB.size)
    clear v0
    go_wp2_with fail
    refine ⟨HS3.out _ ba bb, ?_⟩
    refine mix_late rfl (fun K hK => ?_)
    go_wp2_with fail
    refine (equalActor_same (stepG a cars) A5 A6 c5 c6 _ h5.rd h6.rd (by omega)).mono ?_
    rintro e w17 ⟨rfl, v0⟩
    clear h6
    replace ba := ba.below v0 ba.lt
    replace bb := bb.below v0 bb.lt
    replace hr := hr.below v0
    replace hcr := hcr.below v0
    replace h5 := h5.below v0
    replace hB := hB.trans (v0.mono hB.size)
    clear v0
    go_wp2_with fail
    refine ⟨HS3.out _ ba bb, ?_⟩
    repeat (refine mix_early (fun K hK => ?_); go_simp; refine hK _ ?_; clear hK K)
    refine mix_nil ?_
    simp only [tailT, List.filterMap_nil]
    refine wpLateC_nil (NoPanic.normal ?_)
    go_wp2_with fail
    go_ret
    exact ⟨rfl, hB⟩
  | true =>
    have hg := validA_iff.mp hv
    have Hg := Lib.hid hg
    have hst := hg.wa
    have hst5 := hg.st
    obtain ⟨n, hn⟩ : ∃ n, n = a.wa.length := ⟨_, rfl⟩
    have hn1 : 1 ≤ n := by omega
    have hn5 : n ≤ 5 := by omega
    have hnst : (n : Int) = a.st := by omega
    have Hnst := Lib.hid hnst
    have hgz : Good ⟨a.st, a.now, a.pa, a.qu, a.le, noneL n⟩ := ⟨hg.st, hg.now, hg.pa, hg.qu, hg.le, by simp only [noneL, List.length_replicate]; exact hnst⟩
    have hcalm := Lib.hid (fun k => calm hgz (show noneL n = noneL (noneL n).length by rw [show (noneL n).length = n from List.length_replicate]) k)
    simp only [show (noneL n).length = n from List.length_replicate] at hcalm
    have hgood := Lib.hid (fun k => iterS_good (cars := noneL n) hgz (by simp only [noneL]) k)
    have hle5 := hg.le
    clear hg hst hn hnst hgz
    have hk5 := h5
    refine wp_region_mix S [(0, 0), (0, 1), (0, 2), (1, 3), (1, 4), (0, 5), (0, 6), (0, 7), (1, 8), (0, 9), (0, 10)] [] (by kernel_rfl) (by kernel_rfl) (HS3.out _ ba.drew bb.drew) ?_
    intro hne0
    simp only [mixOps, List.filterMap_cons, List.filterMap_nil, List.getElem?_toArray, List.getElem?_cons_zero, List.getElem?_cons_succ, Option.map_some]
    replace ba := ba.drew
    replace bb := bb.drew
    replace hB := hB.drew
    replace hr := hr.drew
    replace hcr := hcr.drew
    replace h5 := h5.drew
    generalize w4.drew = w11 at *
    repeat (refine mix_early (fun K hK => ?_); go_simp; refine hK _ ?_; clear hK K)
    refine mix_late rfl (fun K hK => ?_)
    go_wp2_with fail
    refine (sStepG_any a cars A1 C c1 d _ hr hcr).mono ?_
    rintro e w12 ⟨A6, c6, rfl, h6, v0⟩
    replace ba := ba.below v0 ba.lt
    replace bb := bb.below v0 bb.lt
    replace hr := hr.below v0
    replace hcr := hcr.below v0
    replace h5 := h5.below v0
    replace hB := hB.trans (v0.mono hB.size)
    clear v0
    go_wp2_with fail
    refine ⟨HS3.out _ ba bb, ?_⟩
    refine mix_late rfl (fun K hK => ?_)
    go_wp2_with fail
    refine (equalActor_same (stepG a cars) A5 A6 c5 c6 _ h5.rd h6.rd (by omega)).mono ?_
    rintro e w13 ⟨rfl, v0⟩
    clear h6
    replace ba := ba.below v0 ba.lt
    replace bb := bb.below v0 bb.lt
    replace hr := hr.below v0
    replace hcr := hcr.below v0
    replace h5 := h5.below v0
    replace hB := hB.trans (v0.mono hB.size)
    clear v0
    go_wp2_with fail
    refine ⟨HS3.out _ ba bb, ?_⟩
    repeat (refine mix_early (fun K hK => ?_); go_simp; refine hK _ ?_; clear hK K)
    refine mix_lateG (by rfl) (fun K hK => ?_)
    go_wp2_with fail
    refine (iValidA_any a A1 c1 _).mono ?_
    rw [hv]
    rintro e w14 ⟨rfl, v0⟩
    replace ba := ba.below v0 ba.lt
    replace bb := bb.below v0 bb.lt
    replace hr := hr.below v0
    replace hcr := hcr.below v0
    replace h5 := h5.below v0
    replace hB := hB.trans (v0.mono hB.size)
    clear v0
    go_wp2_with fail
    refine ⟨HS3.out _ ba bb, ?_⟩
    repeat (refine mix_early (fun K hK => ?_); go_simp; refine hK _ ?_; clear hK K)
    refine mix_nil ?_
    simp only [tailT, List.filterMap_nil]
    refine wpLateC_nil (NoPanic.normal ?_)
    go_wp2_with fail
    clear h5 hk5 hcr
    have hmk : ∀ W, (Instr.makeSlice 22 (.int .i64 ((n : Nat) : Int)) (.int .i64 ((n : Nat) : Int))).run Try.prog W = .ok (.slice (some ⟨W.heap.size, 0, none⟩) n n) (W.alloc (.cells (List.replicate n (Value.bool false)).toArray 4)) := by
      obtain ⟨i0, hi0, hz0, hz1, hz2⟩ := info_parts info_Bool
      exact fun W => run_make_n (P := Try.prog) 22 4 i0 (Value.bool false) Try.underlying22 hi0 hz0 hz1 rfl .i64 .i64 n n (Nat.le_refl _) (by omega) (by omega) W
    rw [← Hnst.out] at k0
    have hnone : ∀ (W : World) (g : Nat), Blk W g 4 (Array.replicate n (Value.bool false)) → OwnO fB W g 4 (some ⟨g, 0, none⟩) n (noneL n) := fun W g hb =>
      (OwnL.of_blk (xs := noneL n) (lo := g) (f := fB) (by simpa [noneL] using hb) (Nat.le_refl _) (by simp [noneL, maxLen]; omega)).o |> fun h => by simpa [noneL] using h
    have Hnone := Lib.hid hnone
    have Hnone2 := Lib.hid hnone
    clear hnone
    refine wp_region_fork S [(0, 0), (0, 1), (0, 2), (0, 3), (0, 4), (0, 5), (0, 6), (0, 7), (0, 8), (0, 9), (0, 10), (0, 11)] 12 14 [(0, 13), (1, 14), (1, 15)] [(1, 12), (0, 13), (1, 15)] [] (by kernel_rfl) (by kernel_rfl) (HS3.out _ ba.drew bb.drew) ?_
    intro hne1
    simp only [mixOps, List.filterMap_cons, List.filterMap_nil, List.getElem?_toArray, List.getElem?_cons_zero, List.getElem?_cons_succ, Option.map_some]
    replace ba := ba.drew
    replace bb := bb.drew
    replace hB := hB.drew
    replace hr := hr.drew
    generalize w14.drew = wd at *
    repeat (refine mix_early (fun K hK => ?_); go_simp; refine hK _ ?_; clear hK K)
    refine mix_nil ⟨?_, ?_⟩
    all_goals have Hba := Lib.hid ba
    all_goals have Hbb := Lib.hid bb
    · refine mix_late rfl (fun K hK => ?_)
      go_wp2_with fail
      refine ⟨HS3.out _ (Hba.out.alloc _) (Hbb.out.alloc _), ?_⟩
      repeat (refine mix_early (fun K hK => ?_); go_simp; refine hK _ ?_; clear hK K)
      refine mix_late rfl (fun K hK => ?_)
      go_wp2_with fail
      refine ⟨HS3.out _ ((Hba.out.alloc _).alloc _) ((Hbb.out.alloc _).alloc _), ?_⟩
      refine mix_late rfl (fun K hK => ?_)
      go_wp2_with fail
      refine ⟨HS3.out _ ((Hba.out.alloc _).alloc _) ((Hbb.out.alloc _).alloc _), ?_⟩
      refine mix_nil ?_
      simp only [tailT, List.filterMap_nil]
      refine wpLateC_nil (NoPanic.normal ?_)
      have hll : (noneL n).length = n := List.length_replicate
      have hos : OwnO fB ((wd.alloc (.cells (Array.replicate n (Value.bool false)) 4)).alloc (.cells #[.int .i64 ((n : Nat) : Int), .int .i64 a.now, .int .i64 a.pa, .int .i64 a.qu, .int .i64 a.le, .slice (some ⟨wd.heap.size, 0, none⟩) n n] 27)) w.heap.size 4 (some ⟨wd.heap.size, 0, none⟩) n (noneL n) := ((Hnone.out _ _ (Blk.new wd 4 _)).alloc _).mono hB.size
      have hbx : Blk ((wd.alloc (.cells (Array.replicate n (Value.bool false)) 4)).alloc (.cells #[.int .i64 ((n : Nat) : Int), .int .i64 a.now, .int .i64 a.pa, .int .i64 a.qu, .int .i64 a.le, .slice (some ⟨wd.heap.size, 0, none⟩) n n] 27)) (wd.heap.size + 1) 27 (acC ⟨a.st, a.now, a.pa, a.qu, a.le, noneL n⟩ (some ⟨wd.heap.size, 0, none⟩) n) := by
        simp only [acC, hll, ← Hnst.out]
        exact Blk.new2 _ _ _ _
      have hba := (Hba.out.alloc (.cells (Array.replicate n (Value.bool false)) 4)).alloc (.cells #[.int .i64 ((n : Nat) : Int), .int .i64 a.now, .int .i64 a.pa, .int .i64 a.qu, .int .i64 a.le, .slice (some ⟨wd.heap.size, 0, none⟩) n n] 27)
      have hBq := (hB.alloc hB.size (.cells (Array.replicate n (Value.bool false)) 4)).alloc (by have := hB.size; simp; omega) (.cells #[.int .i64 ((n : Nat) : Int), .int .i64 a.now, .int .i64 a.pa, .int .i64 a.qu, .int .i64 a.le, .slice (some ⟨wd.heap.size, 0, none⟩) n n] 27)
      have hnx : ∀ b, blk (some (⟨wd.heap.size, 0, none⟩ : Addr)) = some b → b ≠ wd.heap.size + 1 := fun b h => by simp at h; omega
      have hgx : w.heap.size ≤ wd.heap.size + 1 := by have := hB.size; omega
      have hgax : ga ≠ wd.heap.size + 1 := by have := Hba.out.lt; omega
      clear ba bb Hba Hbb hB hr hll k0 k1 k2 k3 k4 k5 j0 j1 j2 j3 j4 j5 HS3 Hnone
      generalize (wd.alloc (.cells (Array.replicate n (Value.bool false)) 4)).alloc (.cells #[.int .i64 ((n : Nat) : Int), .int .i64 a.now, .int .i64 a.pa, .int .i64 a.qu, .int .i64 a.le, .slice (some ⟨wd.heap.size, 0, none⟩) n n] 27) = wq at *
      generalize hAs : (some (⟨wd.heap.size, 0, none⟩ : Addr)) = As at *
      clear hAs
      generalize wd.heap.size + 1 = gx at *
      go_wp2_with fail
      go_loopw [7] (fun i wr => ∃ k : Nat, k ≤ 60 ∧ i = .int .i64 k ∧ (∃ Ax cx, Blk wr gx 27 (acC (iterS ⟨a.st, a.now, a.pa, a.qu, a.le, noneL n⟩ (noneL n) k) Ax cx) ∧ OwnO fB wr w.heap.size 4 Ax cx (iterS ⟨a.st, a.now, a.pa, a.qu, a.le, noneL n⟩ (noneL n) k).wa ∧ (∀ b, blk Ax = some b → b ≠ gx)) ∧ Blk wr ga 27 (acC a A1 c1) ∧ Below w.heap.size w wr) (fun i _ => 60 - (intOf i).toNat)
      case atStart => exact ⟨0, by omega, rfl, ⟨As, n, hbx, hos, hnx⟩, hba, hBq⟩
      case round =>
        clear hbx hos hnx hba hBq
        obtain ⟨k, hk, rfl, ⟨Ax, cx, hbx, ho, hne⟩, hba, hB⟩ := hrel
        have hck := hcalm.out k
        have hck1 := hcalm.out (k + 1)
        obtain ⟨hgk, hgl, -⟩ := hgood.out k
        have hxs : stepG (iterS ⟨a.st, a.now, a.pa, a.qu, a.le, noneL n⟩ (noneL n) k) (noneL n) = iterS ⟨a.st, a.now, a.pa, a.qu, a.le, noneL n⟩ (noneL n) (k + 1) := by rw [stepG, if_pos (okA_of hgk hgl)]; rfl
        have hxl : (iterS ⟨a.st, a.now, a.pa, a.qu, a.le, noneL n⟩ (noneL n) (k + 1)).wa.length ≤ 5 := by rw [← hxs]; exact stepG_len
        obtain ⟨x1, hx1⟩ : ∃ x1, x1 = iterS ⟨a.st, a.now, a.pa, a.qu, a.le, noneL n⟩ (noneL n) (k + 1) := ⟨_, rfl⟩
        obtain ⟨x, hx⟩ : ∃ x, x = (iterS ⟨a.st, a.now, a.pa, a.qu, a.le, noneL n⟩ (noneL n) k) := ⟨_, rfl⟩
        rw [← hx1] at hck1 hxs hxl
        rw [← hx] at hck hgk hgl hxs hbx ho
        have Hx1 := Lib.hid hx1
        clear hx1 hx hgl
        obtain ⟨n1, -, -⟩ := hck1
        obtain ⟨-, -, n2⟩ := hck
        have N1 : (x1.now != a.now) = false := by have h : x1.now = a.now := n1; simpa using h
        have N2 : Hid (x.le = if (k : Int) < a.le then a.le - k else 0) := Lib.hid n2
        have Hxs := Lib.hid hxs
        clear n1 n2 hxs
        by_cases hlt : k < 60
        case neg =>
          obtain rfl : k = 60 := by omega
          have hl0 : (x.le == 0) = true := by have := N2.out; rw [if_neg (by omega)] at this; simpa using this
          obtain ⟨a0, a1, a2, a3, a4, a5⟩ := loadT hbx
          clear hbx hba ho
          go_wp2_with fail
          go_ret
          exact ⟨rfl, hB⟩
        go_wp2_with fail
        obtain ⟨S, hS⟩ : ∃ S : World → Prop, S = fun y => Blk y ga 27 (acC a A1 c1) ∧ Blk y gx 27 (acC x Ax cx) := ⟨_, rfl⟩
        have hS1 : ∀ y, S y → Blk y ga 27 (acC a A1 c1) := fun y h => by rw [hS] at h; exact h.1
        have hS2 : ∀ y, S y → Blk y gx 27 (acC x Ax cx) := fun y h => by rw [hS] at h; exact h.2
        have hS3 : ∀ y, Blk y ga 27 (acC a A1 c1) → Blk y gx 27 (acC x Ax cx) → S y := fun y h1 h2 => by rw [hS]; exact ⟨h1, h2⟩
        obtain ⟨k0, k1, k2, k3, k4, k5⟩ := held_cells hS1
        obtain ⟨j0, j1, j2, j3, j4, j5⟩ := held_cells hS2
        rw [← Hnst.out] at k0
        have HS3 := Lib.hid hS3
        clear hS hS1 hS2 hS3
        refine wp_region_mix S [(0, 0), (0, 1), (0, 2), (1, 3), (1, 4)] [5] (by kernel_rfl) (by kernel_rfl) (HS3.out _ hba.drew hbx.drew) ?_
        intro hne1
        simp only [mixOps, List.filterMap_cons, List.filterMap_nil, List.getElem?_toArray, List.getElem?_cons_zero, List.getElem?_cons_succ, Option.map_some]
        replace hba := hba.drew
        replace hbx := hbx.drew
        replace hB := hB.drew
        replace ho := ho.drew
        generalize wr.drew = wd at *
        repeat (refine mix_early (fun K hK => ?_); go_simp; refine hK _ ?_; clear hK K)
        have hnd := (Hnone2.out _ _ (Blk.new wd 4 (Array.replicate n (Value.bool false)))).rd
        have hst := fun W hr hc => iStepG_any x (noneL n) Ax (some ⟨wd.heap.size, 0, none⟩) cx n W hr hc
        simp only [show (noneL n).length = n from List.length_replicate, Hxs.out] at hst
        refine mix_late rfl (fun K hK => ?_)
        go_wp2_with fail
        refine ⟨HS3.out _ (hba.alloc _) (hbx.alloc _), ?_⟩
        replace hba := hba.alloc (.cells (Array.replicate n (Value.bool false)) 4)
        replace hbx := hbx.alloc (.cells (Array.replicate n (Value.bool false)) 4)
        replace ho := ho.alloc (.cells (Array.replicate n (Value.bool false)) 4)
        replace hB := hB.alloc hB.size (.cells (Array.replicate n (Value.bool false)) 4)
        generalize hgw : wd.alloc (.cells (Array.replicate n (Value.bool false)) 4) = we at *
        clear hgw
        refine mix_late rfl (fun K hK => ?_)
        go_wp2_with fail
        refine (hst _ ho.rd hnd).mono ?_
        rintro e w30 ⟨A7, c7, rfl, h7, v0⟩
        have hn7 := own_ne h7 gx (.inl hbx.lt)
        have h7b := h7.mono hB.size
        replace hba := hba.below v0 hba.lt
        replace hbx := hbx.below v0 hbx.lt
        replace hB := hB.trans (v0.mono hB.size)
        clear v0 ho hnd hst h7
        go_wp2_with fail
        refine ⟨HS3.out _ hba hbx, ?_⟩
        refine mix_nil ?_
        simp only [tailT, List.filterMap_cons, List.filterMap_nil, List.getElem?_toArray, List.getElem?_cons_zero, List.getElem?_cons_succ]
        clear k0 k1 k2 k3 k4 k5 j0 j1 j2 j3 j4 j5 HS3 hne1
        obtain ⟨f0, f1, f2, f3, f4, f5⟩ := loadT hbx
        have hff := hbx.frozen
        have hbx2 := hbx.set6 (v0 := .int .i64 x1.st) (v1 := .int .i64 x1.now) (v2 := .int .i64 x1.pa) (v3 := .int .i64 x1.qu) (v4 := .int .i64 x1.le) (v5 := .slice A7 x1.wa.length c7)
        have hba2 := hba.grown (only_set6 w30 gx (.int .i64 x1.st) (.int .i64 x1.now) (.int .i64 x1.pa) (.int .i64 x1.qu) (.int .i64 x1.le) (.slice A7 x1.wa.length c7)) (fun e => hgax (by injection e))
        have h72 := own_set6 (g := gx) (v0 := .int .i64 x1.st) (v1 := .int .i64 x1.now) (v2 := .int .i64 x1.pa) (v3 := .int .i64 x1.qu) (v4 := .int .i64 x1.le) (v5 := .slice A7 x1.wa.length c7) h7b hn7
        have hB2 := below_set6 (g := gx) (v0 := .int .i64 x1.st) (v1 := .int .i64 x1.now) (v2 := .int .i64 x1.pa) (v3 := .int .i64 x1.qu) (v4 := .int .i64 x1.le) (v5 := .slice A7 x1.wa.length c7) hB hgx
        obtain ⟨a0, a1, a2, a3, a4, a5⟩ := loadT hba
        have HBX := Lib.hid hbx2
        have HBA := Lib.hid hba2
        have HO := Lib.hid h72
        clear hbx hba hbx2 hba2 h7b h72
        refine wpLateC_tail rfl (fun K hK => ?_)
        go_wp2_with fail
        refine wpLateC_nil (NoPanic.normal ?_)
        go_wp2_with fail
        go_roundw
        case rel => exact ⟨k + 1, by omega, by go_num, ⟨A7, c7, by rw [← Hx1.out]; exact HBX.out, by rw [← Hx1.out]; exact HO.out, hn7⟩, HBA.out, hB2⟩
        case measure => simp [intOf]; omega
    · refine mix_late rfl (fun K hK => ?_)
      go_wp2_with fail
      refine ⟨HS3.out _ (Hba.out.alloc _) (Hbb.out.alloc _), ?_⟩
      refine mix_late rfl (fun K hK => ?_)
      go_wp2_with fail
      refine ⟨HS3.out _ ((Hba.out.alloc _).alloc _) ((Hbb.out.alloc _).alloc _), ?_⟩
      repeat (refine mix_early (fun K hK => ?_); go_simp; refine hK _ ?_; clear hK K)
      refine mix_late rfl (fun K hK => ?_)
      go_wp2_with fail
      refine ⟨HS3.out _ ((Hba.out.alloc _).alloc _) ((Hbb.out.alloc _).alloc _), ?_⟩
      refine mix_nil ?_
      simp only [tailT, List.filterMap_nil]
      refine wpLateC_nil (NoPanic.normal ?_)
      have hll : (noneL n).length = n := List.length_replicate
      have hos : OwnO fB ((wd.alloc (.cells #[.int .i64 ((n : Nat) : Int), .int .i64 a.now, .int .i64 a.pa, .int .i64 a.qu, .int .i64 a.le, .slice (some ⟨wd.heap.size + 1, 0, none⟩) n n] 27)).alloc (.cells (Array.replicate n (Value.bool false)) 4)) w.heap.size 4 (some ⟨wd.heap.size + 1, 0, none⟩) n (noneL n) := (Hnone.out _ _ (Blk.new2 wd (.cells #[.int .i64 ((n : Nat) : Int), .int .i64 a.now, .int .i64 a.pa, .int .i64 a.qu, .int .i64 a.le, .slice (some ⟨wd.heap.size + 1, 0, none⟩) n n] 27) 4 _)).mono (by have := hB.size; omega)
      have hbx : Blk ((wd.alloc (.cells #[.int .i64 ((n : Nat) : Int), .int .i64 a.now, .int .i64 a.pa, .int .i64 a.qu, .int .i64 a.le, .slice (some ⟨wd.heap.size + 1, 0, none⟩) n n] 27)).alloc (.cells (Array.replicate n (Value.bool false)) 4)) (wd.heap.size) 27 (acC ⟨a.st, a.now, a.pa, a.qu, a.le, noneL n⟩ (some ⟨wd.heap.size + 1, 0, none⟩) n) := by
        simp only [acC, hll, ← Hnst.out]
        exact (Blk.new _ _ _).alloc _
      have hba := (Hba.out.alloc (.cells #[.int .i64 ((n : Nat) : Int), .int .i64 a.now, .int .i64 a.pa, .int .i64 a.qu, .int .i64 a.le, .slice (some ⟨wd.heap.size + 1, 0, none⟩) n n] 27)).alloc (.cells (Array.replicate n (Value.bool false)) 4)
      have hBq := (hB.alloc hB.size (.cells #[.int .i64 ((n : Nat) : Int), .int .i64 a.now, .int .i64 a.pa, .int .i64 a.qu, .int .i64 a.le, .slice (some ⟨wd.heap.size + 1, 0, none⟩) n n] 27)).alloc (by have := hB.size; simp; omega) (.cells (Array.replicate n (Value.bool false)) 4)
      have hnx : ∀ b, blk (some (⟨wd.heap.size + 1, 0, none⟩ : Addr)) = some b → b ≠ wd.heap.size := fun b h => by simp at h; omega
      have hgx : w.heap.size ≤ wd.heap.size := by have := hB.size; omega
      have hgax : ga ≠ wd.heap.size := by have := Hba.out.lt; omega
      clear ba bb Hba Hbb hB hr hll k0 k1 k2 k3 k4 k5 j0 j1 j2 j3 j4 j5 HS3 Hnone
      generalize (wd.alloc (.cells #[.int .i64 ((n : Nat) : Int), .int .i64 a.now, .int .i64 a.pa, .int .i64 a.qu, .int .i64 a.le, .slice (some ⟨wd.heap.size + 1, 0, none⟩) n n] 27)).alloc (.cells (Array.replicate n (Value.bool false)) 4) = wq at *
      generalize hAs : (some (⟨wd.heap.size + 1, 0, none⟩ : Addr)) = As at *
      clear hAs
      skip
      generalize wd.heap.size = gx at *
      go_wp2_with fail
      go_loopw [7] (fun i wr => ∃ k : Nat, k ≤ 60 ∧ i = .int .i64 k ∧ (∃ Ax cx, Blk wr gx 27 (acC (iterS ⟨a.st, a.now, a.pa, a.qu, a.le, noneL n⟩ (noneL n) k) Ax cx) ∧ OwnO fB wr w.heap.size 4 Ax cx (iterS ⟨a.st, a.now, a.pa, a.qu, a.le, noneL n⟩ (noneL n) k).wa ∧ (∀ b, blk Ax = some b → b ≠ gx)) ∧ Blk wr ga 27 (acC a A1 c1) ∧ Below w.heap.size w wr) (fun i _ => 60 - (intOf i).toNat)
      case atStart => exact ⟨0, by omega, rfl, ⟨As, n, hbx, hos, hnx⟩, hba, hBq⟩
      case round =>
        clear hbx hos hnx hba hBq
        obtain ⟨k, hk, rfl, ⟨Ax, cx, hbx, ho, hne⟩, hba, hB⟩ := hrel
        have hck := hcalm.out k
        have hck1 := hcalm.out (k + 1)
        obtain ⟨hgk, hgl, -⟩ := hgood.out k
        have hxs : stepG (iterS ⟨a.st, a.now, a.pa, a.qu, a.le, noneL n⟩ (noneL n) k) (noneL n) = iterS ⟨a.st, a.now, a.pa, a.qu, a.le, noneL n⟩ (noneL n) (k + 1) := by rw [stepG, if_pos (okA_of hgk hgl)]; rfl
        have hxl : (iterS ⟨a.st, a.now, a.pa, a.qu, a.le, noneL n⟩ (noneL n) (k + 1)).wa.length ≤ 5 := by rw [← hxs]; exact stepG_len
        obtain ⟨x1, hx1⟩ : ∃ x1, x1 = iterS ⟨a.st, a.now, a.pa, a.qu, a.le, noneL n⟩ (noneL n) (k + 1) := ⟨_, rfl⟩
        obtain ⟨x, hx⟩ : ∃ x, x = (iterS ⟨a.st, a.now, a.pa, a.qu, a.le, noneL n⟩ (noneL n) k) := ⟨_, rfl⟩
        rw [← hx1] at hck1 hxs hxl
        rw [← hx] at hck hgk hgl hxs hbx ho
        have Hx1 := Lib.hid hx1
        clear hx1 hx hgl
        obtain ⟨n1, -, -⟩ := hck1
        obtain ⟨-, -, n2⟩ := hck
        have N1 : (x1.now != a.now) = false := by have h : x1.now = a.now := n1; simpa using h
        have N2 : Hid (x.le = if (k : Int) < a.le then a.le - k else 0) := Lib.hid n2
        have Hxs := Lib.hid hxs
        clear n1 n2 hxs
        by_cases hlt : k < 60
        case neg =>
          obtain rfl : k = 60 := by omega
          have hl0 : (x.le == 0) = true := by have := N2.out; rw [if_neg (by omega)] at this; simpa using this
          obtain ⟨a0, a1, a2, a3, a4, a5⟩ := loadT hbx
          clear hbx hba ho
          go_wp2_with fail
          go_ret
          exact ⟨rfl, hB⟩
        go_wp2_with fail
        obtain ⟨S, hS⟩ : ∃ S : World → Prop, S = fun y => Blk y ga 27 (acC a A1 c1) ∧ Blk y gx 27 (acC x Ax cx) := ⟨_, rfl⟩
        have hS1 : ∀ y, S y → Blk y ga 27 (acC a A1 c1) := fun y h => by rw [hS] at h; exact h.1
        have hS2 : ∀ y, S y → Blk y gx 27 (acC x Ax cx) := fun y h => by rw [hS] at h; exact h.2
        have hS3 : ∀ y, Blk y ga 27 (acC a A1 c1) → Blk y gx 27 (acC x Ax cx) → S y := fun y h1 h2 => by rw [hS]; exact ⟨h1, h2⟩
        obtain ⟨k0, k1, k2, k3, k4, k5⟩ := held_cells hS1
        obtain ⟨j0, j1, j2, j3, j4, j5⟩ := held_cells hS2
        rw [← Hnst.out] at k0
        have HS3 := Lib.hid hS3
        clear hS hS1 hS2 hS3
        refine wp_region_mix S [(0, 0), (0, 1), (0, 2), (1, 3), (1, 4)] [5] (by kernel_rfl) (by kernel_rfl) (HS3.out _ hba.drew hbx.drew) ?_
        intro hne1
        simp only [mixOps, List.filterMap_cons, List.filterMap_nil, List.getElem?_toArray, List.getElem?_cons_zero, List.getElem?_cons_succ, Option.map_some]
        replace hba := hba.drew
        replace hbx := hbx.drew
        replace hB := hB.drew
        replace ho := ho.drew
        generalize wr.drew = wd at *
        repeat (refine mix_early (fun K hK => ?_); go_simp; refine hK _ ?_; clear hK K)
        have hnd := (Hnone2.out _ _ (Blk.new wd 4 (Array.replicate n (Value.bool false)))).rd
        have hst := fun W hr hc => iStepG_any x (noneL n) Ax (some ⟨wd.heap.size, 0, none⟩) cx n W hr hc
        simp only [show (noneL n).length = n from List.length_replicate, Hxs.out] at hst
        refine mix_late rfl (fun K hK => ?_)
        go_wp2_with fail
        refine ⟨HS3.out _ (hba.alloc _) (hbx.alloc _), ?_⟩
        replace hba := hba.alloc (.cells (Array.replicate n (Value.bool false)) 4)
        replace hbx := hbx.alloc (.cells (Array.replicate n (Value.bool false)) 4)
        replace ho := ho.alloc (.cells (Array.replicate n (Value.bool false)) 4)
        replace hB := hB.alloc hB.size (.cells (Array.replicate n (Value.bool false)) 4)
        generalize hgw : wd.alloc (.cells (Array.replicate n (Value.bool false)) 4) = we at *
        clear hgw
        refine mix_late rfl (fun K hK => ?_)
        go_wp2_with fail
        refine (hst _ ho.rd hnd).mono ?_
        rintro e w30 ⟨A7, c7, rfl, h7, v0⟩
        have hn7 := own_ne h7 gx (.inl hbx.lt)
        have h7b := h7.mono hB.size
        replace hba := hba.below v0 hba.lt
        replace hbx := hbx.below v0 hbx.lt
        replace hB := hB.trans (v0.mono hB.size)
        clear v0 ho hnd hst h7
        go_wp2_with fail
        refine ⟨HS3.out _ hba hbx, ?_⟩
        refine mix_nil ?_
        simp only [tailT, List.filterMap_cons, List.filterMap_nil, List.getElem?_toArray, List.getElem?_cons_zero, List.getElem?_cons_succ]
        clear k0 k1 k2 k3 k4 k5 j0 j1 j2 j3 j4 j5 HS3 hne1
        obtain ⟨f0, f1, f2, f3, f4, f5⟩ := loadT hbx
        have hff := hbx.frozen
        have hbx2 := hbx.set6 (v0 := .int .i64 x1.st) (v1 := .int .i64 x1.now) (v2 := .int .i64 x1.pa) (v3 := .int .i64 x1.qu) (v4 := .int .i64 x1.le) (v5 := .slice A7 x1.wa.length c7)
        have hba2 := hba.grown (only_set6 w30 gx (.int .i64 x1.st) (.int .i64 x1.now) (.int .i64 x1.pa) (.int .i64 x1.qu) (.int .i64 x1.le) (.slice A7 x1.wa.length c7)) (fun e => hgax (by injection e))
        have h72 := own_set6 (g := gx) (v0 := .int .i64 x1.st) (v1 := .int .i64 x1.now) (v2 := .int .i64 x1.pa) (v3 := .int .i64 x1.qu) (v4 := .int .i64 x1.le) (v5 := .slice A7 x1.wa.length c7) h7b hn7
        have hB2 := below_set6 (g := gx) (v0 := .int .i64 x1.st) (v1 := .int .i64 x1.now) (v2 := .int .i64 x1.pa) (v3 := .int .i64 x1.qu) (v4 := .int .i64 x1.le) (v5 := .slice A7 x1.wa.length c7) hB hgx
        obtain ⟨a0, a1, a2, a3, a4, a5⟩ := loadT hba
        have HBX := Lib.hid hbx2
        have HBA := Lib.hid hba2
        have HO := Lib.hid h72
        clear hbx hba hbx2 hba2 h7b h72
        refine wpLateC_tail rfl (fun K hK => ?_)
        go_wp2_with fail
        refine wpLateC_nil (NoPanic.normal ?_)
        go_wp2_with fail
        go_roundw
        case rel => exact ⟨k + 1, by omega, by go_num, ⟨A7, c7, by rw [← Hx1.out]; exact HBX.out, by rw [← Hx1.out]; exact HO.out, hn7⟩, HBA.out, hB2⟩
        case measure => simp [intOf]; omega

set_option maxRecDepth 100000 in
theorem lifted (os : Os) (started : os.Started) (H : Type) (enc : TypeId × Value → H) :
    ReturnsInHanded {} Try.checked os 8 .any (Rows.fnStepActorCalmSpec.pre6 enc Try.prog Try.f8 Rows.fnStepActorCalmRow.domain false) (Rows.fnStepActorCalmSpec.post enc Try.prog Try.f8 false true false false) := by
  refine returnsInHanded_of_change (C := Try.checked) own started (by kernel_rfl) Try.func8
    (ChangeSpec.witness6 (enc := enc) (C := Try.checked) false ⟨#[], #[.slice none 0 0], []⟩ 8 (by kernel_rfl) (by kernel_rfl) (by kernel_rfl) (by kernel_rfl)) ?_
  intro W base args ds gs before hval0 hW hcnd _
  have hval : ∀ (j : Nat) t v, Try.f8.params[j]? = some t → args[j]? = some v → Value.okWide Try.prog W .any base t v := hval0
  have hW' := hW
  obtain ⟨p, q, hA0, hV, rfl, hfz, hnd⟩ := hW
  have hA : DataW.TrodAll enc Try.prog W 0 (fun _ => true) true Try.f8.params.toList args.toList ds p := hA0
  rw [Try.params8] at hA hval
  obtain ⟨v0, vs0, d0, ds0, p0, q0, hargs, rfl, rfl, h0, r0⟩ := trodAll_cons hA
  obtain ⟨rfl, rfl, rfl⟩ := trodAll_nil r0
  obtain rfl : args = #[v0] := by cases args; simp_all
  obtain ⟨rfl, rfl⟩ := trodVars_none hV
  have k0 := h0
  have lt0 : ∀ x ∈ p0, x.block < W.heap.size := by obtain ⟨m, hm⟩ := k0; exact DataW.trod_lt m _ _ _ hm
  obtain ⟨a0, len0, cap0, rfl⟩ := okWide_slice Try.underlying32 (hval 0 32 v0 rfl rfl)
  obtain ⟨w0, hc0⟩ := open_bytes Try.underlying32 Try.underlying5 (by kernel_rfl) h0
  clear hA0 hval0
  refine (walk a0 len0 cap0 W w0 hc0).mono fun e W' ⟨he, bel⟩ => ?_
  subst he
  exact ⟨_, rfl, _, _, _, [], _, [], hW', trodAll_mk1 (shut_bool Try.underlying4 _), (trodAll_cons_mk (Below.trod laidOut (by kernel_rfl) (of_decide_eq_true (by kernel_rfl)) k0 bel lt0) trodAll_mk0), rfl, bel.frame _, fun h => by cases h⟩

theorem over : Rows.fnStepActorCalmRow.holds Try.pinned (OpenSpec.ofChange Rows.fnStepActorCalmSpec) :=
  OpenClaim.holds_of_wide 8 Try.f8 rfl rfl rfl rfl rfl rfl rfl ⟨rfl, rfl, rfl, rfl, rfl⟩ rfl rfl rfl rfl rfl (by kernel_rfl) Try.func8 (by kernel_rfl)
    (of_decide_eq_true (by kernel_rfl)) (by unfold Func.isWrapper; first | (rw [if_pos (by decide +kernel)]; kernel_rfl) | (rw [if_neg (by decide +kernel)]; exact ⟨rfl, rfl⟩))
    (fun os started H enc _ => lifted os started H enc)

theorem proved : Rows.FnStepActorCalmSaid := over
end Go.Proofs.Ytoadkefajobgnaa.FnStepActorCalm
