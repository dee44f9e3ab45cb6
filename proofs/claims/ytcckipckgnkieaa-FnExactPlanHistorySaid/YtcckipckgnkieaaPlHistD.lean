/-
  Generated histories.
-/
import Derived.Test.YtcckipckgnkieaaPlPlanD
namespace Go.Proofs.Ytcckipckgnkieaa
open Go.RowKit
set_option linter.unusedVariables false

/-- A slice of slices whose rows may be replaced. -/
def OwnW (w : World) (lo : Nat) (C : Option Addr) (c : Nat) (css : List (List Int)) : Prop :=
  ∃ ps : List (Option Addr × Nat × Nat), ps.length = css.length ∧ OwnO fS w lo 32 C c ps ∧ ∀ (k : Nat) (p : Option Addr × Nat × Nat) (xs : List Int), ps[k]? = some p → css[k]? = some xs → p.2.1 = xs.length ∧ OwnO fI w lo 3 p.1 p.2.2 xs
section
variable {w w' : World} {lo : Nat} {C : Option Addr} {c : Nat} {css : List (List Int)}
theorem OwnW.of {hi : Nat} (h : OwnG fI 32 3 w lo hi C c css) : OwnW w lo C c css := by
  obtain ⟨ps, h1, _, h2⟩ := h
  exact ⟨ps, h2.1, h1, fun k p xs hp hx => ⟨(h2.2.1 k p xs hp hx).1, (h2.2.1 k p xs hp hx).2.1⟩⟩
theorem OwnW.old {row : Option Nat} (h : OwnW w lo C c css) (hg : w.grownBy w' row) (hr : ∀ b, row = some b → b < lo) : OwnW w' lo C c css := by
  obtain ⟨ps, h0, h1, h2⟩ := h
  have hh : ∀ {β : Type} {f : β → Value} {A : Option Addr} {T : TypeId} {n : Nat} {xs : List β}, OwnO f w lo T A n xs → blk A = none ∨ blk A ≠ row := fun ho => by
    cases row with
    | none => exact (by rename_i A _ _ _; cases hA : blk A <;> simp)
    | some b => exact or_own (fun b hb => (ho.lt b hb).1) (hr b rfl)
  exact ⟨ps, h0, h1.grown hg (hh h1), fun k p xs hp hx => ⟨(h2 k p xs hp hx).1, (h2 k p xs hp hx).2.grown hg (hh (h2 k p xs hp hx).2)⟩⟩
theorem OwnW.below (h : OwnW w lo C c css) (hb : Below w.heap.size w w') : OwnW w' lo C c css := h.old (only_of_below hb none) (fun b e => by cases e)
theorem OwnW.mono {lo' : Nat} (h : OwnW w lo C c css) (hl : lo' ≤ lo) : OwnW w lo' C c css := by
  obtain ⟨ps, h0, h1, h2⟩ := h
  exact ⟨ps, h0, h1.mono hl, fun k p xs hp hx => ⟨(h2 k p xs hp hx).1, (h2 k p xs hp hx).2.mono hl⟩⟩
theorem OwnW.rd (h : OwnW w lo C c css) : RdSS fI w C css := by
  obtain ⟨ps, h0, h1, h2⟩ := h
  exact ⟨ps, h1.rd, h0, fun k hk hk' => by
    have := h2 k ps[k] css[k] (List.getElem?_eq_getElem hk') (List.getElem?_eq_getElem hk)
    exact ⟨this.1, this.2.rd⟩⟩
theorem OwnW.cap (h : OwnW w lo C c css) : css.length ≤ c := by
  obtain ⟨ps, h0, h1, _⟩ := h
  rw [← h0]
  rcases h1 with ⟨_, h, _⟩ | ⟨_, _, _, _, _, _, h, _⟩
  · rw [h]; simp
  · exact h
theorem OwnW.put (h : OwnW w lo C c css) {k : Nat} (hk : k < css.length) : ∃ g o, C = some ⟨g, o, none⟩ ∧ (∃ z, w.cell? ⟨g, o + k, none⟩ = some z) ∧ w.frozen? ⟨g, o + k, none⟩ = false ∧ lo ≤ g ∧ g < w.heap.size ∧
    ∀ A n (xs : List Int), OwnO fI w lo 3 A n xs → OwnW (w.setCell ⟨g, o + k, none⟩ (.slice A xs.length n)) lo C c (css.set k xs) := by
  obtain ⟨ps, h0, h1, h2⟩ := h
  have hk' : k < ps.length := by omega
  obtain ⟨g, o, rfl, hc, hf, hl, hlt⟩ := h1.at hk'
  refine ⟨g, o, rfl, ⟨_, hc⟩, hf, hl, hlt, fun A n xs ho => ⟨ps.set k (A, xs.length, n), by simp [h0], h1.set hk', fun i p ys hp hy => ?_⟩⟩
  rw [List.getElem?_set] at hp hy
  by_cases e : k = i
  · subst e
    rw [if_pos rfl, if_pos hk'] at hp
    rw [if_pos rfl, if_pos hk] at hy
    injection hp with hp
    injection hy with hy
    subst hp hy
    exact ⟨rfl, ho.grown (only_set (w := w) (g := g) (k := o + k) _) (sepT h1 ho (by decide)).or⟩
  · rw [if_neg e] at hp hy
    obtain ⟨h3, h4⟩ := h2 i p ys hp hy
    exact ⟨h3, h4.grown (only_set (w := w) (g := g) (k := o + k) _) (sepT h1 h4 (by decide)).or⟩
end
/-- A history that is small. -/
def SmH (h : List (List Int)) : Prop := h.length ≤ 150 ∧ ∀ k, k < h.length → (gm h k).length ≤ 8
theorem SmH.set {h : List (List Int)} (hs : SmH h) {k : Nat} (hk : k < h.length) {xs : List Int} (hx : xs.length ≤ 8) : SmH (h.set k xs) := by
  refine ⟨by rw [List.length_set]; exact hs.1, fun i hi => ?_⟩
  rw [List.length_set] at hi
  rw [gm_set hk]
  split
  · exact hx
  · exact hs.2 i hi
theorem planF_sm (p : Pl) (f n : Int) : SmH (planF p f n) := by
  unfold planF
  split
  · rename_i h
    simp only [Bool.and_eq_true] at h
    have hg := dec_iff.mp h.1
    have h2 := span_iff.mp h.2
    refine ⟨by rw [planL_length]; omega, fun k hk => ?_⟩
    rw [planL_length] at hk
    rw [planL, gm_mapN hk]
    exact grnP_len hg (mod_cyc hg _).1 (mod_cyc hg _).2
  · exact ⟨by simp, fun k hk => by simp at hk⟩
theorem shl_bd (q : Nat) (h : q ≤ 8) : ∃ z : Int, IntKind.i64.wrap ((2 : Int) ^ q) = z ∧ 1 ≤ z ∧ z ≤ 256 := by
  rcases (show q = 0 ∨ q = 1 ∨ q = 2 ∨ q = 3 ∨ q = 4 ∨ q = 5 ∨ q = 6 ∨ q = 7 ∨ q = 8 by omega) with rfl | rfl | rfl | rfl | rfl | rfl | rfl | rfl | rfl
  all_goals exact ⟨_, rfl, by decide, by decide⟩
/-- A generated table and history. -/
def DrawH (w : World) (rb : Nat) (e : Ending) (w' : World) : Prop :=
  ∃ t C c h D d, e = .returned (.tuple #[.slice C (t : List (List Int)).length c, .slice D (h : List (List Int)).length d]) ∧ RdSS fI w' C t ∧ RdSS fI w' D h ∧ Sm8 t ∧ SmH h ∧ h.length ≤ d ∧ w.grownBy w' (some rb)

set_option maxRecDepth 100000 in
set_option maxHeartbeats 3200000 in
theorem anyHistory_any (rb M : Nat) (w : World) (hd : Rdr w rb M) (hM : M ≤ 100000) :
    Calls Try.prog 63 #[.pointer (some ⟨rb, 0, none⟩)] w (DrawH w rb) := by
  have hrb := hd.lt
  go_enter Try.func63, Try.ntmps63
  go_wp2_with fail
  refine (anyClear_any rb M _ hd (by omega)).mono ?_
  rintro e w1 ⟨t, C, c, rfl, htc, hG, hsm, hd1, G1⟩
  have hz1 := G1.size
  have hr1 := hG.rd
  have Hsm := Lib.hid hsm
  have hn8 := hsm.1
  clear hd hsm
  go_wp2_with fail
  cases hv : validC t with
  | false =>
    refine (sValC_v t false hv C c _ hr1 (by omega) (fun k hk => by have := Hsm.out.2 k hk; omega)).mono ?_
    rintro e w2 ⟨rfl, v2⟩
    have hr2 := hr1.below v2
    have G2 := only_below G1 v2
    have hA := (OwnL.of_blk (xs := [(0 : Int)]) (f := fI) (lo := w2.heap.size) (Blk.new w2 3 #[.int .i64 0]) (Nat.le_refl _) (by simp [maxLen])).o
    have hs2 : (w2.alloc (.cells #[.int .i64 0] 3)).heap.size = w2.heap.size + 1 := by simp
    have hb := Blk.new (w2.alloc (.cells #[.int .i64 0] 3)) 32 #[.slice (some ⟨w2.heap.size, 0, none⟩) 1 1]
    rw [hs2] at hb
    have hO := (OwnL.of_blk (xs := [((some ⟨w2.heap.size, 0, none⟩ : Option Addr), 1, 1)]) (f := fS) (lo := w2.heap.size) hb (by omega) (by simp [maxLen])).o
    have hA2 := hA.alloc (.cells #[.slice (some ⟨w2.heap.size, 0, none⟩) 1 1] 32)
    have hr3 := (hr2.alloc (.cells #[.int .i64 0] 3)).alloc (.cells #[.slice (some ⟨w2.heap.size, 0, none⟩) 1 1] 32)
    have G3 := only_alloc (only_alloc G2 (.cells #[.int .i64 0] 3)) (.cells #[.slice (some ⟨w2.heap.size, 0, none⟩) 1 1] 32)
    have hW : OwnW ((w2.alloc (.cells #[.int .i64 0] 3)).alloc (.cells #[.slice (some ⟨w2.heap.size, 0, none⟩) 1 1] 32)) w2.heap.size (some ⟨w2.heap.size + 1, 0, none⟩) 1 [[0]] :=
      ⟨_, rfl, hO, fun k p xs hp hx => by
        cases k with
        | zero => simp at hp hx; subst hp hx; exact ⟨rfl, hA2⟩
        | succ k => simp at hp⟩
    clear hv hG hd1 hb hs2 hA hO hA2
    go_wp2_with fail
    go_ret2
    exact ⟨t, C, c, [[0]], _, 1, rfl, hr3, hW.rd, Hsm.out, ⟨by simp, fun k hk => by simp at hk; subst hk; simp [gm]⟩, by simp, G3⟩
  | true =>
    have Hg := Lib.hid (dec_iff.mp hv)
    have hn1 := Hg.out.n1
    refine (sValC_v t true hv C c _ hr1 (by omega) (fun k hk => by have := Hsm.out.2 k hk; omega)).mono ?_
    rintro e w2 ⟨rfl, v2⟩
    obtain ⟨lo, hlo⟩ : ∃ lo, lo = w.heap.size := ⟨_, rfl⟩
    obtain ⟨hi, hhi⟩ : ∃ hi, hi = w1.heap.size := ⟨_, rfl⟩
    rw [← hlo, ← hhi] at hG
    have hG2 := hG.below v2
    have hd2 := hd1.below v2 (by omega)
    have G2 := only_below G1 v2
    have hz2 := v2.size
    clear hv hG hd1 G1 hr1 v2
    go_wp2_with fail
    refine (randomPlan_any t C c rb _ lo hi _ hG2 Hg.out (by omega) (by omega) (by omega) hd2 (by omega)).mono ?_
    rintro e w3 ⟨sg, S, d, rfl, hP, hl5, hl1, -, hph, hd3, hg3⟩
    have Hph := Lib.hid hph
    have hG3 := hG2.grown hg3 (by omega) (fun b e => by injection e with e; omega)
    have G3 := only_trans G2 hg3
    have hz3 := hg3.size
    clear hG2 hd2 G2 hg3 hph
    go_wp2_with fail
    refine (pick_any _ rb _ 20 hd3 (by omega)).mono ?_
    rintro e w4 ⟨f, rfl, hf0, hf1, hd4, hg4⟩
    have hP4 := hP.old hg4 (fun b e => by injection e with e; omega)
    have hG4 := hG3.grown hg4 (by omega) (fun b e => by injection e with e; omega)
    have G4 := only_trans G3 hg4
    have hz4 := hg4.size
    clear hG3 hd3 G3 hg4 hP
    go_wp2_with fail
    refine (one_any _ rb _ _ 6 _ [30, 20, 40, 10, 0, 150] (hd4.alloc _) (by omega) (Blk.new _ _ _) (by omega) rfl (by omega) (by omega)).mono ?_
    rintro e w5 ⟨n, rfl, -, hd5, hg5⟩
    have hgg := only_trans (only_alloc (only_refl w4 (some rb)) _) hg5
    have hP5 := hP4.old hgg (fun b e => by injection e with e; omega)
    have hG5 := hG4.grown hgg (by omega) (fun b e => by injection e with e; omega)
    have G5 := only_trans G4 hgg
    have hz5 := hgg.size
    have hsm5 : SmP ⟨t, sg⟩ 1000000000 := ⟨by have := Hsm.out.1; simp only; omega, fun k hk => by have := Hsm.out.2 k hk; simp only at this ⊢; omega, by simp only; omega, fun k hk => by have := Hph.out k hk; omega⟩
    have Hsm5 := Lib.hid hsm5
    clear hG4 hd4 G4 hg5 hgg hP4 hsm5
    have hhist := sHist_any ⟨t, sg⟩ f n C S c d w5 (hP5.rdp hG5.rd) Hsm5.out
    have hpsm := planF_sm ⟨t, sg⟩ f n
    go_wp2_with fail
    refine hhist.mono ?_
    rintro e w6 ⟨D, d6, rfl, hH, v6⟩
    have hW6 := OwnW.of hH
    have hG6 := hG5.below v6
    have hd6 := hd5.below v6 (by omega)
    have G6 := only_below G5 v6
    have hz6 := v6.size
    generalize planF ⟨t, sg⟩ f n = h at *
    have Hh := Lib.hid hpsm
    clear hH hG5 hd5 G5 v6 hP5 hhist hpsm
    go_wp2_with fail
    refine (pick_any _ rb _ 4 hd6 (by omega)).mono ?_
    rintro e w7 ⟨m, rfl, hm0, hm1, hd7, hg7⟩
    have hm1 := hm1 (by omega)
    have hW7 := (hW6.mono (show hi ≤ w5.heap.size by omega)).old hg7 (fun b e => by injection e with e; omega)
    have hr7 := (hG6.grown hg7 (by omega) (fun b e => by injection e with e; omega))
    have G7 := only_trans G6 hg7
    have hz7 := hg7.size
    obtain ⟨m, rfl⟩ := Int.eq_ofNat_of_zero_le hm0
    clear hW6 hG6 hd6 G6 hg7
    go_wp2_with fail
    obtain ⟨L, hL⟩ : ∃ L, L = h.length := ⟨_, rfl⟩
    have hL150 := Hh.out.1
    rw [← hL] at hL150
    rw [← hL]
    go_loopw [6] (fun vi wr => ∃ j : Nat, j ≤ m ∧ vi = .int .i64 j ∧ (∃ h', h'.length = L ∧ OwnW wr hi D d6 h' ∧ SmH h') ∧ OwnG fI 32 3 wr lo hi C c t ∧ Rdr wr rb (M + 1000 + 2 * (m - j)) ∧ w.grownBy wr (some rb) ∧ hi ≤ wr.heap.size) (fun vi _ => (intOf vi).toNat)
    case atStart => exact ⟨m, Nat.le_refl _, rfl, ⟨h, hL.symm, hW7, Hh.out⟩, hr7, hd7.mono (by omega), G7, by omega⟩
    case round =>
      clear hW7 hr7 hd7 G7 hL Hh
      obtain ⟨j, hj, rfl, ⟨h', hL, hW, hh⟩, hG, hd, G, hhw⟩ := hrel
      have HL := Lib.hid hL
      have Hh := Lib.hid hh
      clear hL hh
      have hz := G.size
      by_cases hj0 : 0 < j
      · by_cases hL0 : 0 < L
        · obtain ⟨S0, hS⟩ : ∃ S0 : World → Prop, S0 = fun _ => True := ⟨_, rfl⟩
          have hS3 : ∀ y : World, S0 y := fun y => by rw [hS]; trivial
          clear hS
          go_wp2_with fail
          refine wp_region_mix S0 [(0, 0), (0, 1), (0, 2), (0, 3), (0, 5), (0, 7), (0, 8), (0, 9), (0, 11), (0, 12), (1, 4), (1, 6), (0, 10), (1, 13), (0, 14), (1, 15)] [] (by kernel_rfl) (by kernel_rfl) (hS3 _) ?_
          intro hne1
          simp only [mixOps, List.filterMap_cons, List.filterMap_nil, List.getElem?_toArray, List.getElem?_cons_zero, List.getElem?_cons_succ, Option.map_some]
          have hd0 := hd.drew
          have hW0 := hW.below (Below.refl _ _).drew
          have hG0 := hG.drew
          have G0 := only_drew G
          replace hhw : hi ≤ wr.drew.heap.size := hhw
          replace hz : w.heap.size ≤ wr.drew.heap.size := hz
          clear hd hW hG G
          generalize wr.drew = wd at *
          obtain ⟨z, hsh, hz1', hz256⟩ : ∃ z : Int, IntKind.i64.wrap ((2 : Int) ^ t.length) = z ∧ 1 ≤ z ∧ z ≤ 256 := shl_bd _ hn8
          repeat (refine mix_early (fun K hK => ?_); go_simp; refine hK _ ?_; clear hK K)
          refine mix_late rfl (fun K hK => ?_)
          go_wp2_with fail
          refine (pick_any _ rb _ _ hd0 (by omega)).mono ?_
          rintro e wa ⟨x, rfl, hx0, hx1, hda, hga⟩
          have hx1 := hx1 (by omega)
          obtain ⟨x, rfl⟩ := Int.eq_ofNat_of_zero_le hx0
          have hWa := hW0.old hga (fun b e => by injection e with e; omega)
          have hGa := hG0.grown hga (by omega) (fun b e => by injection e with e; omega)
          have Ga := only_trans G0 hga
          have hza := hga.size
          clear hd0 hW0 hG0 G0 hga
          go_wp2_with fail
          refine ⟨hS3 _, ?_⟩
          refine mix_late rfl (fun K hK => ?_)
          go_wp2_with fail
          refine (pick_any _ rb _ _ hda (by omega)).mono ?_
          rintro e wb ⟨y, rfl, hy0, hy1, hdb, hgb⟩
          have hy1 := hy1 (by omega)
          have hWb := hWa.old hgb (fun b e => by injection e with e; omega)
          have hGb := hGa.grown hgb (by omega) (fun b e => by injection e with e; omega)
          have Gb := only_trans Ga hgb
          have hzb := hgb.size
          clear hda hWa hGa Ga hgb
          obtain ⟨u, hu⟩ : ∃ u, u = y % z := ⟨_, rfl⟩
          have hub : 0 ≤ u ∧ u ≤ 1000 := by
            have h1 := Int.emod_nonneg y (show z ≠ 0 by omega)
            have h2 := Int.emod_lt_of_pos y (show 0 < z by omega)
            omega
          have htm : y.tmod z = u := by rw [hu]; exact Int.tmod_eq_emod_of_nonneg hy0
          have hzn : ¬ z = 0 := by omega
          clear hu
          go_wp2_with fail
          refine ⟨hS3 _, ?_⟩
          repeat (refine mix_early (fun K hK => ?_); go_simp; refine hK _ ?_; clear hK K)
          refine mix_late rfl (fun K hK => ?_)
          go_wp2_with fail
          refine (inMask_any u t.length wb hub.1 hub.2 hn8).mono ?_
          rintro e wc ⟨xs, A, c1, rfl, ho, hxl, vc⟩
          have hWc := hWb.below vc
          have hGc := hGb.below vc
          have hdc := hdb.below vc (by omega)
          have Gc := only_below Gb vc
          have hzc := vc.size
          have hoc := ho.mono (show hi ≤ wb.heap.size by omega)
          clear hdb hWb hGb Gb vc ho
          obtain ⟨g, o, rfl, ⟨z0, hcz⟩, hfz, hlg, hgz, hput⟩ := hWc.put (k := x) (by rw [HL.out]; omega)
          have hWd := hput A c1 xs hoc
          have hdd := hdc.setCell (p := ⟨g, o + x, none⟩) (by simp; omega) (.slice A xs.length c1)
          have hGd : OwnG fI 32 3 (wc.setCell ⟨g, o + x, none⟩ (.slice A xs.length c1)) lo hi C c t := by
            refine OwnG.grown hGc (only_set (w := wc) (g := g) (k := o + x) (.slice A xs.length c1)) (by omega) (fun b e => ?_)
            injection e with e
            omega
          have Gd := only_setCell Gc (p := ⟨g, o + x, none⟩) (.inr (by simp; omega)) (.slice A xs.length c1)
          have hzd : (wc.setCell ⟨g, o + x, none⟩ (.slice A xs.length c1)).heap.size = wc.heap.size := by simp
          clear hput hWc hGc hdc Gc hoc
          have hxL : (x : Int) < (L : Int) := by omega
          go_wp2_with fail
          refine ⟨hS3 _, ?_⟩
          repeat (refine mix_early (fun K hK => ?_); go_simp; refine hK _ ?_; clear hK K)
          refine mix_late rfl (fun K hK => ?_)
          go_wp2_with fail
          refine ⟨hS3 _, ?_⟩
          refine mix_nil ?_
          simp only [tailT, List.filterMap_nil]
          refine wpLateC_nil (NoPanic.normal ?_)
          clear hne1 hcz hfz
          have Hset := Lib.hid (Hh.out.set (k := x) (by rw [HL.out]; omega) (xs := xs) (by omega))
          go_wp2_with fail
          go_roundw
          case rel => exact ⟨j - 1, by omega, by congr 1; omega, ⟨_, by rw [List.length_set]; exact HL.out, hWd, Hset.out⟩, hGd, hdd.mono (by omega), Gd, by omega⟩
          case measure => simp [intOf]; omega
        · obtain rfl : L = 0 := by omega
          have hcap := hW.cap
          go_wp2_with fail
          go_ret2
          exact ⟨t, C, c, h', D, d6, by rw [HL.out]; rfl, hG.rd, hW.rd, Hsm.out, Hh.out, hW.cap, G⟩
      · obtain rfl : j = 0 := by omega
        by_cases hL0 : 0 < L
        · go_wp2_with fail
          refine (pick_any _ rb _ 20 hd (by omega)).mono ?_
          rintro e wa ⟨u, rfl, -, -, hda, hga⟩
          have hWa := hW.old hga (fun b e => by injection e with e; omega)
          have hGa := hG.grown hga (by omega) (fun b e => by injection e with e; omega)
          have Ga := only_trans G hga
          have hza := hga.size
          clear hd hW hG G hga
          cases hu : (u == 0) with
          | false =>
            go_wp2_with fail
            go_ret2
            exact ⟨t, C, c, h', D, d6, by rw [HL.out]; rfl, hGa.rd, hWa.rd, Hsm.out, Hh.out, hWa.cap, Ga⟩
          | true =>
            go_wp2_with fail
            refine (one_any _ rb _ _ 3 _ [8, -1, 0] (hda.alloc _) (by omega) (Blk.new _ _ _) (by omega) rfl (by omega) (by omega)).mono ?_
            rintro e wb ⟨x, rfl, -, hdb, hgb⟩
            have hgg := only_trans (only_alloc (only_refl wa (some rb)) _) hgb
            have hWb := hWa.old hgg (fun b e => by injection e with e; omega)
            have hGb := hGa.grown hgg (by omega) (fun b e => by injection e with e; omega)
            have Gb := only_trans Ga hgg
            have hzb := hgg.size
            clear hda hWa hGa Ga hgb hgg
            have hA := (OwnL.of_blk (xs := [x]) (f := fI) (lo := hi) (Blk.new wb 3 #[.int .i64 x]) (by omega) (by simp [maxLen])).o
            have hWc := hWb.below ((Below.refl wb.heap.size wb).alloc (Nat.le_refl _) (.cells #[.int .i64 x] 3))
            have hGc := hGb.alloc (.cells #[.int .i64 x] 3)
            have Gc := only_alloc Gb (.cells #[.int .i64 x] 3)
            have hzc : (wb.alloc (.cells #[.int .i64 x] 3)).heap.size = wb.heap.size + 1 := by simp
            obtain ⟨g, o, rfl, ⟨z0, hcz⟩, hfz, hlg, hgz, hput⟩ := hWc.put (k := 0) (by rw [HL.out]; omega)
            have hWd := hput _ _ [x] hA
            have hGd := OwnG.grown hGc (only_set (g := g) (k := o + 0) (.slice (some ⟨wb.heap.size, 0, none⟩) 1 1)) (by omega) (fun b e => by injection e with e; omega)
            have Gd := only_setCell Gc (p := ⟨g, o + 0, none⟩) (.inr (by simp; omega)) (.slice (some ⟨wb.heap.size, 0, none⟩) 1 1)
            have Hset := Lib.hid (Hh.out.set (k := 0) (by rw [HL.out]; omega) (xs := [x]) (by simp))
            clear hput hWc hGc Gc hA hWb hGb Gb hdb hzc
            simp only [Nat.add_zero] at hcz hfz hWd hGd Gd
            go_wp2_with fail
            go_ret2
            exact ⟨t, C, c, h'.set 0 [x], some ⟨g, o, none⟩, d6, by rw [List.length_set, HL.out]; rfl, hGd.rd, hWd.rd, Hsm.out, Hset.out, hWd.cap, Gd⟩
        · obtain rfl : L = 0 := by omega
          go_wp2_with fail
          go_ret2
          exact ⟨t, C, c, h', D, d6, by rw [HL.out]; rfl, hG.rd, hW.rd, Hsm.out, Hh.out, hW.cap, G⟩

/-- What a drawn table and history are. -/
def DrawHB (w : World) (e : Ending) (w' : World) : Prop :=
  ∃ t C c h D d, e = .returned (.tuple #[.slice C (t : List (List Int)).length c, .slice D (h : List (List Int)).length d]) ∧ RdSS fI w' C t ∧ RdSS fI w' D h ∧ Sm8 t ∧ SmH h ∧ h.length ≤ d ∧ Below w.heap.size w w'
theorem drawFF_any (w : World) (A : Option Addr) (len cap : Nat) (h : Bytes w A len) (hc : len ≤ cap) :
    Calls Try.prog 30 #[.slice A len cap] w (DrawHB w) := by
  go_enter Try.func30, Try.ntmps30
  go_wp2_with fail
  refine (newReader_any _ A len cap h hc).mono ?_
  rintro e w1 ⟨rb, rfl, hrb, hr1, hb1⟩
  go_wp2_with fail
  refine (anyHistory_any rb 0 _ hr1 (by omega)).mono ?_
  rintro e w2 ⟨t, C, c, hh, D, d, rfl, k1, k2, k3, k4, k5, k6⟩
  go_wp2_with fail
  go_ret2
  exact ⟨t, C, c, hh, D, d, rfl, k1, k2, k3, k4, k5, below_of_only hb1 k6 hrb⟩
theorem drawGH_any (w : World) (A : Option Addr) (len cap : Nat) (h : Bytes w A len) (hc : len ≤ cap) :
    Calls Try.prog 31 #[.slice A len cap] w (DrawHB w) := by
  go_enter Try.func31, Try.ntmps31
  go_wp2_with fail
  refine (newReader_any _ A len cap h hc).mono ?_
  rintro e w1 ⟨rb, rfl, hrb, hr1, hb1⟩
  go_wp2_with fail
  refine (anyHistory_any rb 0 _ hr1 (by omega)).mono ?_
  rintro e w2 ⟨t, C, c, hh, D, d, rfl, k1, k2, k3, k4, k5, k6⟩
  go_wp2_with fail
  go_ret2
  exact ⟨t, C, c, hh, D, d, rfl, k1, k2, k3, k4, k5, below_of_only hb1 k6 hrb⟩
end Go.Proofs.Ytcckipckgnkieaa
