/-
  Generated plans.
-/
import Derived.Test.YtcckipckgnkieaaPlStage
namespace Go.Proofs.Ytcckipckgnkieaa
open Go.RowKit
set_option linter.unusedVariables false

/-- A generated plan over a given table. -/
def DrawPl (t : List (List Int)) (T : Option Addr) (c : Nat) (w : World) (rb N : Nat) (e : Ending) (w' : World) : Prop :=
  ∃ sg S d, e = .returned (plV ⟨t, sg⟩ T c S d) ∧ OwnPl w' w.heap.size S d sg ∧ sg.length ≤ 5 ∧ 1 ≤ sg.length ∧ sg.length ≤ d ∧ (∀ k, k < sg.length → (ph ⟨t, sg⟩ k).length ≤ 8) ∧ Rdr w' rb N ∧ w.grownBy w' (some rb)
theorem OwnSt.mono {w : World} {lo lo' : Nat} {S : Option Addr} {d : Nat} {qs : List Hd} (h : OwnSt w lo S d qs) (hl : lo' ≤ lo) : OwnSt w lo' S d qs := by
  refine ⟨h.1, ?_⟩
  rcases h.2 with h | ⟨g, c, cur, hv, hg, r⟩
  · exact .inl h
  · exact .inr ⟨g, c, cur, hv, by omega, r⟩
theorem ph_push {t : List (List Int)} {sg : List (List Int × Int)} {s : List Int × Int} (h : ∀ k, k < sg.length → (ph ⟨t, sg⟩ k).length ≤ 8) (hs : s.1.length ≤ 8) : ∀ k, k < (sg ++ [s]).length → (ph ⟨t, sg ++ [s]⟩ k).length ≤ 8 := by
  intro k hk
  simp at hk
  by_cases e : k < sg.length
  · have := h k e
    simpa [ph, List.getElem?_append_left e] using this
  · obtain rfl : k = sg.length := by omega
    simpa [ph] using hs

set_option maxRecDepth 100000 in
set_option maxHeartbeats 3200000 in
theorem randomPlan_any (t : List (List Int)) (T : Option Addr) (c rb M lo hi : Nat) (w : World) (hG : OwnG fI 32 3 w lo hi T c t) (hg : GoodC t) (hrb : rb < lo) (hlo : lo ≤ w.heap.size) (hhi : hi ≤ w.heap.size) (hd : Rdr w rb M) (hM : M ≤ 500000000) :
    Calls Try.prog 64 #[.pointer (some ⟨rb, 0, none⟩), .slice T t.length c] w (DrawPl t T c w rb (M + 100)) := by
  obtain ⟨i0, hi0, hz0, hz1, hz2⟩ := info_parts info_Stage
  have hbz := (Blk.new w 26 #[.slice none 0 0, .slice none 0 0])
  have hbz1 := (hbz.alloc (.cells #[.slice T t.length c, .slice none 0 0] 26)).alloc (.cells #[] 79)
  have hbp := Blk.new (w.alloc (.cells #[.slice none 0 0, .slice none 0 0] 26)) 26 #[.slice T t.length c, .slice none 0 0]
  have hs1 : (w.alloc (.cells #[.slice none 0 0, .slice none 0 0] 26)).heap.size = w.heap.size + 1 := by simp
  rw [hs1] at hbp
  have hbp1 := hbp.alloc (.cells #[] 79)
  have hs2 : ((w.alloc (.cells #[.slice none 0 0, .slice none 0 0] 26)).alloc (.cells #[.slice T t.length c, .slice none 0 0] 26)).heap.size = w.heap.size + 1 + 1 := by simp
  have hst := World.ownsRow_lit (base := w.heap.size + 2) (e := 79) (size := 2) ((w.alloc (.cells #[.slice none 0 0, .slice none 0 0] 26)).alloc (.cells #[.slice T t.length c, .slice none 0 0] 26)) #[] 0 (by rw [hs2]; omega) (by simp [maxLen]) rfl
  rw [hs2] at hst
  have hB := ((((Below.refl w.heap.size w).alloc (Nat.le_refl _) (.cells #[.slice none 0 0, .slice none 0 0] 26)).alloc (by simp) (.cells #[.slice T t.length c, .slice none 0 0] 26)).alloc (by simp; omega) (.cells #[] 79))
  have hs3 : (((w.alloc (.cells #[.slice none 0 0, .slice none 0 0] 26)).alloc (.cells #[.slice T t.length c, .slice none 0 0] 26)).alloc (.cells #[] 79)).heap.size = w.heap.size + 1 + 1 + 1 := by simp
  have hG1 := hG.below hB
  have hd1 := hd.below hB (by omega)
  have G1 := only_of_below hB (some rb)
  have hrbw : rb < w.heap.size := by omega
  clear hbz hbp hs1 hs2 hB hG hd
  go_enter Try.func64, Try.ntmps64
  go_wp2_with fail
  generalize ((w.alloc (.cells #[.slice none 0 0, .slice none 0 0] 26)).alloc (.cells #[.slice T t.length c, .slice none 0 0] 26)).alloc (.cells #[] 79) = W at *
  have hg6 := Blk.new W 3 ([2, 3, 2, 4, 1, 5].map (Value.int .i64)).toArray
  rw [hs3] at hg6
  refine (one_any _ rb _ _ 6 _ [2, 3, 2, 4, 1, 5] (hd1.alloc _) (by omega) hg6 (by omega) rfl (by omega) (by omega)).mono ?_
  rintro e w2 ⟨n0, rfl, hn0, hd2, hg2⟩
  have hgg := only_trans (only_alloc (only_refl W (some rb)) (.cells ([2, 3, 2, 4, 1, 5].map (Value.int .i64)).toArray 3)) hg2
  have hbz2 := hbz1.grown hgg (fun e => by injection e with e; omega)
  have hbp2 := hbp1.grown hgg (fun e => by injection e with e; omega)
  have hst2 : OwnSt w2 (w.heap.size + 2) (some ⟨w.heap.size + 1 + 1, 0, none⟩) 0 [] := OwnSt.old (qs := []) hst hgg (fun b e => by injection e with e; omega)
  have hG2 := hG1.grown hgg (by omega) (fun b e => by injection e with e; omega)
  have G2 := only_trans G1 hgg
  have hnb : 1 ≤ n0 ∧ n0 ≤ 5 := by simp at hn0; omega
  obtain ⟨n, rfl⟩ := Int.eq_ofNat_of_zero_le (show 0 ≤ n0 by omega)
  have hR2 : RowS w2 (w.heap.size + 2) [] [] := ⟨rfl, fun k q s h => by simp at h⟩
  clear hbz1 hbp1 hst hG1 hd1 G1 hg6 hg2 hgg hs3 hn0
  go_wp2_with fail
  go_loopw [6, 7] (fun v6 v7 wr => ∃ m : Nat, m ≤ 5 ∧ v7 = .int .i64 m ∧ (∃ sg S d qs, v6 = .slice S (qs : List Hd).length d ∧ OwnSt wr (w.heap.size + 2) S d qs ∧ RowS wr (w.heap.size + 2) qs sg ∧ sg.length + m ≤ 5 ∧ 1 ≤ sg.length + m ∧ (∀ k, k < sg.length → (ph ⟨t, sg⟩ k).length ≤ 8) ∧ Rdr wr rb (M + 1 + 12 * sg.length)) ∧ OwnG fI 32 3 wr lo hi T c t ∧ Blk wr w.heap.size 26 #[.slice none 0 0, .slice none 0 0] ∧ Blk wr (w.heap.size + 1) 26 #[.slice T t.length c, .slice none 0 0] ∧ w.grownBy wr (some rb)) (fun _ v7 _ => (intOf v7).toNat)
  case atStart => exact ⟨n, by omega, rfl, ⟨[], _, _, [], rfl, hst2, hR2, by simp; omega, by simp; omega, fun k hk => by simp at hk, hd2.mono (by simp)⟩, hG2, hbz2, hbp2, G2⟩
  case round =>
    clear hst2 hR2 hd2 hG2 hbz2 hbp2 G2
    obtain ⟨m, hm5, rfl, ⟨sg, S, d, qs, rfl, hst, hR, hl5, hl1, hph, hd⟩, hG, hbz, hbp, G⟩ := hrel
    have hql := Lib.hid hR.1
    have Hph := Lib.hid hph
    have hz := G.size
    have hzp := hbp.lt
    clear hph
    by_cases hm : 0 < m
    · go_wp2_with fail
      refine (randomPhase_any t T c rb _ wr hG.rd hg hd (by omega)).mono ?_
      rintro e w3 ⟨xs, A, c1, rfl, ho, hxl, hd3, hg3⟩
      have hst3 := OwnSt.old hst hg3 (fun b e => by injection e with e; omega)
      have hR3 := hR.old hg3 (fun b e => by injection e with e; omega)
      have hG3 := hG.grown hg3 (by omega) (fun b e => by injection e with e; omega)
      have hbz3 := hbz.grown hg3 (fun e => by injection e with e; omega)
      have hbp3 := hbp.grown hg3 (fun e => by injection e with e; omega)
      have G3 := only_trans G hg3
      have ho3 := ho.mono (show w.heap.size + 2 ≤ wr.heap.size by omega)
      have hz3 := hg3.size
      clear hst hR hG hbz hbp G ho hd hg3
      go_wp2_with fail
      refine (pick_any _ rb _ 9 hd3 (by omega)).mono ?_
      rintro e w4 ⟨x, rfl, hx0, hx1, hd4, hg4⟩
      have hx1 := hx1 (by omega)
      have hst4 := OwnSt.old hst3 hg4 (fun b e => by injection e with e; omega)
      have hR4 := hR3.old hg4 (fun b e => by injection e with e; omega)
      have hG4 := hG3.grown hg4 (by omega) (fun b e => by injection e with e; omega)
      have hbz4 := hbz3.grown hg4 (fun e => by injection e with e; omega)
      have hbp4 := hbp3.grown hg4 (fun e => by injection e with e; omega)
      have G4 := only_trans G3 hg4
      have ho4 := ho3.grown hg4 (or_own (fun b hb => (ho3.lt b hb).1) (by omega))
      have hz4 := hg4.size
      have hSl := OwnSt.lt hst4
      have hbn := Blk.new w4 79 #[.slice A xs.length c1, .int .i64 (5 + x)]
      have b0 : (w4.alloc (.cells #[.slice A xs.length c1, .int .i64 (5 + x)] 79)).cell? ⟨w4.heap.size, 0, none⟩ = some (.slice A xs.length c1) := hbn.cell 0
      have b1 : (w4.alloc (.cells #[.slice A xs.length c1, .int .i64 (5 + x)] 79)).cell? ⟨w4.heap.size, 1, none⟩ = some (.int .i64 (5 + x)) := hbn.cell 1
      have hq5 : qs.length ≤ 5 := by have := hql.out; omega
      clear hst3 hR3 hG3 hbz3 hbp3 G3 ho3 hd3 hg4
      go_wp2_with (at_builtin; go_must (refine wpList_pushS rfl (.tmp 18) (.tmp 26) 24 rfl i0 _ 32 Try.underlying24 hi0 hz0 hz1 hz2 rfl rfl (World.ownsRow.alloc hst4 (.cells #[.slice A xs.length c1, .int .i64 (5 + x)] 79)) w4.heap.size (A, xs.length, c1, 5 + x) rfl b0 b1 (by omega) (by omega) (by simp; omega) ?_); intro S6 d6 w6 hst6 hg6)
      have hst4' := World.ownsRow.alloc hst4 (.cells #[.slice A xs.length c1, .int .i64 (5 + x)] 79)
      have ho4' := ho4.alloc (.cells #[.slice A xs.length c1, .int .i64 (5 + x)] 79)
      have hR4' : RowS (w4.alloc (.cells #[.slice A xs.length c1, .int .i64 (5 + x)] 79)) (w.heap.size + 2) qs sg := hR4.old (only_alloc (only_refl w4 none) _) (fun b e => by cases e)
      have hR6 := (hR4'.grown hg6 (fun k q s hq hs => OwnSt.sep hst4' (hR4'.2 k q s hq hs).2.2)).snoc (ho4'.grown hg6 (OwnSt.sep hst4' ho4')) (5 + x)
      have hG6 := (hG4.alloc (.cells #[.slice A xs.length c1, .int .i64 (5 + x)] 79)).grown hg6 (by simp; omega) (fun b e => by have := hSl b e; omega)
      have hbz6 := (hbz4.alloc (.cells #[.slice A xs.length c1, .int .i64 (5 + x)] 79)).grown hg6 (fun e => by have := (hSl _ e.symm).1; omega)
      have hbp6 := (hbp4.alloc (.cells #[.slice A xs.length c1, .int .i64 (5 + x)] 79)).grown hg6 (fun e => by have := (hSl _ e.symm).1; omega)
      have hd6 := (hd4.alloc (.cells #[.slice A xs.length c1, .int .i64 (5 + x)] 79)).grown hg6 (fun b e => by have := (hSl b e).1; omega)
      have G6 := only_own (only_alloc G4 (.cells #[.slice A xs.length c1, .int .i64 (5 + x)] 79)) hg6 (fun b e => by have := (hSl b e).1; omega)
      go_roundw
      case rel => exact ⟨m - 1, by omega, by congr 1; omega, ⟨sg ++ [(xs, 5 + x)], S6, d6, qs ++ [(A, xs.length, c1, 5 + x)], by simp, hst6, hR6, by simp; omega, by simp; omega, ph_push Hph.out hxl, hd6.mono (by simp; omega)⟩, hG6, hbz6, hbp6, G6⟩
      case measure => simp [intOf]; omega
    · obtain rfl : m = 0 := by omega
      have hcast : ((0 : Nat) : Int) = 0 := rfl
      simp only [hcast]
      have hSl := OwnSt.lt hst
      obtain ⟨hsd, -⟩ : sg.length ≤ d ∧ True := ⟨by
        obtain ⟨_, _, _, _, _, h⟩ := OwnSt.some hst (by have := hql.out; omega)
        have := hql.out
        omega, trivial⟩
      have hpl : OwnPl wr (w.heap.size + 2) S d sg := ⟨qs, hst, hR⟩
      rw [hql.out]
      have Hpl := Lib.hid hpl
      have f0' := hbp.cell 0
      have f1' := hbp.cell 1
      have ff' := hbp.frozen
      have hbp9 := hbp.set_ 1 (.slice S sg.length d)
      have f0 := hbp9.cell 0
      have f1 := hbp9.cell 1
      have hbz9 := hbz.far (p := ⟨w.heap.size + 1, 1, none⟩) (by simp) (.slice S sg.length d)
      have e0 := hbz9.cell 0
      have e1 := hbz9.cell 1
      have ef := hbz9.frozen
      simp at f0' f1' f0 f1 e0 e1
      have hz9 : ((wr.setCell ⟨w.heap.size + 1, 1, none⟩ (.slice S sg.length d)).setCell ⟨w.heap.size, 0, none⟩ (.slice T t.length c)).heap.size = wr.heap.size := by simp
      have g1 := only_setCell G (p := ⟨w.heap.size + 1, 1, none⟩) (.inr (by simp)) (.slice S sg.length d)
      have g2 := only_setCell g1 (p := ⟨w.heap.size, 0, none⟩) (.inr (by simp)) (.slice T t.length c)
      have g3 := only_setCell g2 (p := ⟨w.heap.size, 1, none⟩) (.inr (by simp)) (.slice S sg.length d)
      have hd3 := ((hd.setCell (p := ⟨w.heap.size + 1, 1, none⟩) (by simp; omega) (.slice S sg.length d)).setCell (p := ⟨w.heap.size, 0, none⟩) (by simp; omega) (.slice T t.length c)).setCell (p := ⟨w.heap.size, 1, none⟩) (by simp; omega) (.slice S sg.length d)
      have hp3 := ((hpl.old (only_set (w := wr) (g := w.heap.size + 1) (k := 1) (.slice S sg.length d)) (fun b e => by injection e with e; omega)).old (only_set (g := w.heap.size) (k := 0) (.slice T t.length c)) (fun b e => by injection e with e; omega)).old (only_set (g := w.heap.size) (k := 1) (.slice S sg.length d)) (fun b e => by injection e with e; omega)
      have Hd3 := Lib.hid hd3
      have Hp3 := Lib.hid hp3
      have G3 := Lib.hid g3
      clear hbp hbz hbp9 hbz9 hst hR hpl hd g1 g2 hd3 hp3 g3 Hpl
      go_wp2_with fail
      refine bodyPost_ret (v := plV ⟨t, sg⟩ T c S d) (by simp [results, Try.results64, go_sem, e0, e1]) rfl ⟨sg, S, d, rfl, ?_, by omega, by omega, hsd, Hph.out, Hd3.out.mono (by omega), G3.out⟩
      have := Hp3.out
      obtain ⟨qs', h1, h2⟩ := this
      exact ⟨qs', OwnSt.mono h1 (by omega), h2.1, fun k q s hq hs => ⟨(h2.2 k q s hq hs).1, (h2.2 k q s hq hs).2.1, (h2.2 k q s hq hs).2.2.mono (by omega)⟩⟩
end Go.Proofs.Ytcckipckgnkieaa
