/-
  The generator of a controller and rounds of cars.
-/
import Derived.Test.YtkppjngpllmpfaaRunOwn
namespace Go.Proofs.Ytkppjngpllmpfaa
open Go.RowKit
set_option linter.unusedVariables false

def DrawR (w : World) (e : Ending) (w' : World) : Prop :=
  ∃ a A c C d css, e = .returned (.tuple #[acV a A c, .slice C (css : List (List Bool)).length d]) ∧ anyA a ∧ css.length ≤ 151 ∧ css.length ≤ d ∧ (∀ x ∈ css, (x.length : Int) = a.st) ∧ RdL fB w' A a.wa ∧ RdSS fB w' C css ∧ Below w.heap.size w w'

set_option maxHeartbeats 3200000 in
theorem drawRn_any (w : World) (A : Option Addr) (len cap : Nat) (h : Bytes w A len) (hc : len ≤ cap) :
    Calls Try.prog 7 #[.slice A len cap] w (DrawR w) := by
  obtain ⟨i0, hi0, hz0, hz1, hz2⟩ := info_parts info_SB
  have h' := h.alloc (.cells acZ 25)
  go_enter Try.func7, Try.ntmps7
  go_wp2_with fail
  refine (newReader_any _ A len cap h' hc).mono ?_
  rintro e w1 ⟨rb, rfl, hrb, hr1, hb1⟩
  have hbz := (Blk.new w 25 acZ).below hb1 (by simp)
  have hB := ((Below.refl w.heap.size w).alloc (Nat.le_refl _) (.cells acZ 25)).trans (hb1.mono (by simp))
  have hrb' : w.heap.size + 1 ≤ rb := by simpa using hrb
  have hlt := hr1.lt
  clear hb1 hrb h h'
  go_wp2_with fail
  refine (anyActor_any _ rb 0 hr1 (by omega)).mono ?_
  rintro e w2 ⟨a, A2, c2, rfl, ha, h2, hr2, hg2⟩
  replace hbz := hbz.grown hg2 (by simp; omega)
  replace hB := below_of_only hB hg2 (by omega)
  have hzl := hbz.lt
  have hlt2 := hr2.lt
  have hnz := own_ne h2 w.heap.size (.inl (by omega))
  have hnr := own_ne h2 rb (.inl hlt)
  have hng := own_ne h2 w2.heap.size (.inr (Nat.le_refl _))
  have hw2 := hB.size
  obtain ⟨ha1, ha2, ha3⟩ := ha
  clear hg2 hr1
  have hba := (Blk.new w2 25 (acC a A2 c2)).alloc (.cells #[] 23)
  replace hbz := (hbz.alloc (.cells (acC a A2 c2) 25)).alloc (.cells #[] 23)
  replace hr2 := (hr2.alloc (.cells (acC a A2 c2) 25)).alloc (.cells #[] 23)
  replace hB := (hB.alloc hw2 (.cells (acC a A2 c2) 25)).alloc (by simp; omega) (.cells #[] 23)
  replace h2 := (h2.alloc (.cells (acC a A2 c2) 25)).alloc (.cells #[] 23)
  have hs0 : OwnSS ((w2.alloc (.cells (acC a A2 c2) 25)).alloc (.cells #[] 23)) w2.heap.size (some ⟨w2.heap.size + 1, 0, none⟩) 0 [] :=
    ⟨[], rfl, (OwnL.of_cap (lo := w2.heap.size) (cap := 0) fS (Blk.new2 w2 (.cells (acC a A2 c2) 25) 23 #[]) (by omega) rfl (by simp [maxLen])).o, fun k h => by simp at h⟩
  go_wp2_with fail
  have hlr := hr2.lt
  generalize hW : (w2.alloc (.cells (acC a A2 c2) 25)).alloc (.cells #[] 23) = W at *
  have hWs : W.heap.size = w2.heap.size + 1 + 1 := by rw [← hW]; simp
  clear hW
  have hg7 := Blk.new W 3 ([30, 60, 20, 100, 0, 150, 151].map (Value.int .i64)).toArray
  rw [hWs] at hg7
  refine (one_any _ rb _ _ 7 _ [30, 60, 20, 100, 0, 150, 151] (hr2.alloc _) (by omega) hg7 (by omega) rfl (by omega) (by omega)).mono ?_
  clear hg7 hlr
  rintro e w4 ⟨x, rfl, hx, hr4, hg4⟩
  replace hba := (hba.alloc (.cells ([30, 60, 20, 100, 0, 150, 151].map (Value.int .i64)).toArray 3)).grown hg4 (by simp; omega)
  replace hbz := (hbz.alloc (.cells ([30, 60, 20, 100, 0, 150, 151].map (Value.int .i64)).toArray 3)).grown hg4 (by simp; omega)
  replace h2 := (h2.alloc (.cells ([30, 60, 20, 100, 0, 150, 151].map (Value.int .i64)).toArray 3)).grown hg4 (or_rb hnr)
  replace hs0 := (hs0.alloc (.cells ([30, 60, 20, 100, 0, 150, 151].map (Value.int .i64)).toArray 3)).grown hg4 hlt2
  replace hB := below_of_only (hB.alloc hB.size (.cells ([30, 60, 20, 100, 0, 150, 151].map (Value.int .i64)).toArray 3)) hg4 (by omega)
  have hx : 0 ≤ x ∧ x ≤ 151 := by simp at hx; omega
  obtain ⟨hx0, hx1⟩ := hx
  clear hg4 hr2
  go_wp2_with fail
  go_loopw [6, 7] (fun v6 v7 wr => ∃ css C d m, v6 = .slice C (css : List (List Bool)).length d ∧ v7 = .int .i64 m ∧ 0 ≤ m ∧ (css.length : Int) + m = x ∧ OwnSS wr w2.heap.size C d css ∧ (∀ y ∈ css, (y.length : Int) = a.st) ∧ Rdr wr rb (600 + 6 * css.length) ∧ OwnO fB wr w1.heap.size 4 A2 c2 a.wa ∧ Blk wr w2.heap.size 25 (acC a A2 c2) ∧ Blk wr w.heap.size 25 acZ ∧ Below w.heap.size w wr) (fun _ v7 _ => (intOf v7).toNat)
  case atStart => exact ⟨[], _, _, x, rfl, rfl, hx0, by simp, hs0, by simp, hr4.mono (by simp; try omega), h2, hba, hbz, hB⟩
  case round =>
    clear hs0 hr4 h2 hba hbz hB
    obtain ⟨css, C, d, m, rfl, rfl, hm0, hm1, hs, hall, hr, h2, hba, hbz, hB⟩ := hrel
    have Hm := Lib.hid hm1
    have hcl : css.length ≤ 151 := by omega
    have hm151 : m ≤ 151 := by omega
    have Hall := Lib.hid hall
    clear hm1 hall
    have hwB := hB.size
    have hgl := hba.lt
    by_cases hm : 0 < m
    · have f0 := hba.cell 0
      simp at f0
      go_wp2_with fail
      refine (randomBools_any _ rb _ a.st hr (by omega) (by omega)).mono ?_
      rintro e w5 ⟨ys, A3, c3, rfl, hy, hyl, hr5, hg5⟩
      replace hba := hba.grown hg5 (by simp; omega)
      replace hbz := hbz.grown hg5 (by simp; omega)
      replace h2 := h2.grown hg5 (or_rb hnr)
      replace hs := hs.grown hg5 hlt2
      replace hB := below_of_only hB hg5 (by omega)
      replace hy := hy.mono (show w2.heap.size ≤ _ by omega)
      have Hyl := Lib.hid hyl
      clear hg5 hr hyl f0
      obtain ⟨ps, p1, p2, p3⟩ := hs
      have hw5 := hB.size
      have hgl5 := hba.lt
      have hpl := p2.lt
      have Hp1 := Lib.hid p1
      have hps : ps.length ≤ 151 := by omega
      clear p1
      go_wp2_with (at_builtin; go_must (refine wpList_pushO rfl (.tmp 20) (.tmp 25) 26 rfl i0 _ 24 Try.underlying26 hi0 hz0 hz1 hz2 rfl (by rw [Hp1.out]; rfl) (p2.alloc _) w5.heap.size (A3, ys.length, c3) rfl (cell_new _ _ _) rfl (by omega) (by omega) (by simp; omega) ?_); intro C4 d4 w6 hp hg6 hb6)
      have hr6 := (hr5.alloc (.cells #[.slice A3 ys.length c3] 23)).grown hg6 (fun b hb => by have := hpl b hb; omega)
      have h26 := (h2.alloc (.cells #[.slice A3 ys.length c3] 23)).grown hg6 (sepT p2 h2 (by decide)).or
      have hba6 := (hba.alloc (.cells #[.slice A3 ys.length c3] 23)).grown hg6 (fun e => neT p2 hba (by decide) _ e.symm rfl)
      have hbz6 := (hbz.alloc (.cells #[.slice A3 ys.length c3] 23)).grown hg6 (fun e => neT p2 hbz (by decide) _ e.symm rfl)
      have hs6 := OwnSS.push Hp1.out p2 p3 hy _ hp hg6
      have hB6 := below_push hw5 hB (fun b hb => by have := hpl b hb; omega) hg6
      go_roundw
      case rel => exact ⟨css ++ [ys], C4, d4, m - 1, by simp [Hp1.out], by go_num, by omega, by have := Hm.out; simp; omega, hs6, by
          intro y hy'
          rcases List.mem_append.mp hy' with h | h
          · exact Hall.out y h
          · simp at h; subst h; have := Hyl.out; omega, hr6.mono (by simp; omega), h26, hba6, hbz6, hB6⟩
      case measure => simp [intOf]; omega
    · obtain ⟨f0, f1, f2, f3, f4, f5⟩ := loadT hba
      obtain ⟨e0, e1, e2, e3, e4, e5⟩ := (⟨hbz.cell 0, hbz.cell 1, hbz.cell 2, hbz.cell 3, hbz.cell 4, hbz.cell 5⟩ : _ ∧ _ ∧ _ ∧ _ ∧ _ ∧ _)
      have hef := hbz.frozen
      simp at e0 e1 e2 e3 e4 e5
      have hcd := hs.capLe
      have hs7 := (hs.grown (only_set6 _ w.heap.size (.int .i64 a.st) (.int .i64 a.now) (.int .i64 a.pa) (.int .i64 a.qu) (.int .i64 a.le) (.slice A2 a.wa.length c2)) (by omega)).rd
      clear hba hbz hs
      have hbel := below_set6 (g := w.heap.size) (v0 := .int .i64 a.st) (v1 := .int .i64 a.now) (v2 := .int .i64 a.pa) (v3 := .int .i64 a.qu) (v4 := .int .i64 a.le) (v5 := .slice A2 a.wa.length c2) hB (Nat.le_refl _)
      go_wp2_with fail
      refine bodyPost_ret (v := .tuple #[acV a A2 c2, .slice C css.length d]) (by simp [results, Try.results7, go_sem, e0, e1, e2, e3, e4, e5]) rfl ⟨a, A2, c2, C, d, css, rfl, ⟨ha1, ha2, ha3⟩, hcl, hcd, Hall.out, (own_set6 h2 hnz).rd, hs7, hbel⟩
end Go.Proofs.Ytkppjngpllmpfaa
