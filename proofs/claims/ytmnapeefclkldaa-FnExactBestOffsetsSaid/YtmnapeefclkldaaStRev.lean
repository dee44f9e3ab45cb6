/-
  Lists and streets in reverse order.
-/
import Derived.Test.YtmnapeefclkldaaStEx
import Derived.Test.YtmnapeefclkldaaRegTr
namespace Go.Proofs.Ytmnapeefclkldaa
open Go.RowKit
set_option linter.unusedVariables false

theorem rev_step {xs : List Int} {j : Nat} (hj : j < xs.length) : (xs.drop j).reverse = (xs.drop (j + 1)).reverse ++ [ga xs j] := by
  rw [List.drop_eq_getElem_cons hj, List.reverse_cons, ga_at hj]
theorem pred_succ (j : Nat) : ((j + 1 : Nat) : Int) - 1 = (j : Int) := by omega
theorem sepN {w : World} {lo : Nat} {T : TypeId} {A : Option Addr} {c : Nat} {xs : List Int} (h : OwnO fI w lo T A c xs) {b : Nat} (hb : b < lo) : ∀ x, blk A = some x → x ≠ b := fun x hx => by have := (h.lt x hx).1; omega

set_option maxHeartbeats 1600000 in
theorem iRev_any (xs : List Int) (A : Option Addr) (cap : Nat) (w : World) (hr : RdL fI w A xs) (hn : xs.length ≤ 2000000) (hn2 : xs.length ≤ 900000) :
    Calls Try.prog 54 #[.slice none 0 0, .slice A xs.length cap] w (NewS fI 3 w xs.reverse) := by
  obtain ⟨i0, hi0, hz0, hz1, hz2⟩ := info_parts info_Int
  go_enter Try.func54, Try.ntmps54
  go_wp2_with fail
  go_loopw [0, 5] (fun v0 vi wr => ∃ m : Nat, m ≤ xs.length ∧ vi = .int .i64 ((m : Int) - 1) ∧ (∃ A1 c1 ys, v0 = .slice A1 ys.length c1 ∧ OwnO fI wr w.heap.size 3 A1 c1 ys ∧ Hid (ys = (xs.drop m).reverse)) ∧ Below w.heap.size w wr) (fun _ vi _ => (intOf vi + 1).toNat)
  case atStart => exact ⟨xs.length, Nat.le_refl _, rfl, ⟨none, 0, [], rfl, OwnO.nil _ _ _ _, Lib.hid (by simp)⟩, Below.refl _ _⟩
  case round =>
    obtain ⟨m, hm, rfl, ⟨A1, c1, ys, rfl, ho, hys⟩, hb⟩ := hrel
    have hys2 : ys.length ≤ xs.length := by rw [hys.out]; simp
    cases m with
    | zero =>
      have h0 : ((0 : Nat) : Int) - 1 = -1 := rfl
      simp only [h0]
      go_wp2_with fail
      go_ret
      have e : ys = xs.reverse := by have := hys.out; simpa using this
      subst e
      exact ⟨A1, c1, rfl, ho, hb⟩
    | succ j =>
      obtain ⟨b1, o1, rfl, hc⟩ := hr.at (k := j) (by omega)
      rw [ga_at (by omega)] at hc
      replace hc := (hb.cell (World.block_lt_of_cell? w _ hc)).trans hc
      simp only [fI] at hc
      have hst := Lib.hid (rev_step (xs := xs) (j := j) (by omega))
      have hlo := ho.lt
      have hz := hb.size
      have hjl : j < xs.length := by omega
      generalize ga xs j = x at *
      simp only [pred_succ]
      go_wp2_with (at_builtin; refine wpList_pushO rfl (.tmp 13) (.tmp 18) 22 rfl i0 _ 8 Try.underlying22 hi0 hz0 hz1 hz2 rfl rfl (ho.alloc _) wr.heap.size x rfl (cell_new _ _ _) rfl (by omega) (by omega) (by simp; omega) ?_; intro A3 c3 w3 ho3 hg3 hb3)
      have hb4 := below_push hz hb hlo hg3
      go_roundw
      case rel => exact ⟨j, by omega, by go_num, ⟨A3, c3, ys ++ [x], by simp, ho3, Lib.hid (by rw [hst.out, hys.out])⟩, hb4⟩
      case measure => simp [intOf]

set_option maxHeartbeats 1600000 in
theorem sRev_any (xs : List Int) (A : Option Addr) (cap : Nat) (w : World) (hr : RdL fI w A xs) (hn : xs.length ≤ 2000000) (hn2 : xs.length ≤ 900000) :
    Calls Try.prog 65 #[.slice A xs.length cap] w (NewS fI 3 w xs.reverse) := by
  obtain ⟨i0, hi0, hz0, hz1, hz2⟩ := info_parts info_Int
  have h0 := (OwnL.of_cap (lo := w.heap.size) fI (Blk.new w 3 #[]) (Nat.le_refl _) rfl (by simp [maxLen])).o
  have hB := (Below.refl w.heap.size w).alloc (Nat.le_refl _) (.cells #[] 3)
  go_enter Try.func65, Try.ntmps65
  go_wp2_with fail
  go_loopw [3, 4] (fun v0 vi wr => ∃ m : Nat, m ≤ xs.length ∧ vi = .int .i64 ((m : Int) - 1) ∧ (∃ A1 c1 ys, v0 = .slice A1 ys.length c1 ∧ OwnO fI wr w.heap.size 3 A1 c1 ys ∧ Hid (ys = (xs.drop m).reverse)) ∧ Below w.heap.size w wr) (fun _ vi _ => (intOf vi + 1).toNat)
  case atStart => exact ⟨xs.length, Nat.le_refl _, rfl, ⟨_, _, [], rfl, h0, Lib.hid (by simp)⟩, hB⟩
  case round =>
    clear h0 hB
    obtain ⟨m, hm, rfl, ⟨A1, c1, ys, rfl, ho, hys⟩, hb⟩ := hrel
    have hys2 : ys.length ≤ xs.length := by rw [hys.out]; simp
    cases m with
    | zero =>
      have h0 : ((0 : Nat) : Int) - 1 = -1 := rfl
      simp only [h0]
      go_wp2_with fail
      go_ret
      have e : ys = xs.reverse := by have := hys.out; simpa using this
      subst e
      exact ⟨A1, c1, rfl, ho, hb⟩
    | succ j =>
      obtain ⟨b1, o1, rfl, hc⟩ := hr.at (k := j) (by omega)
      rw [ga_at (by omega)] at hc
      replace hc := (hb.cell (World.block_lt_of_cell? w _ hc)).trans hc
      simp only [fI] at hc
      have hst := Lib.hid (rev_step (xs := xs) (j := j) (by omega))
      have hlo := ho.lt
      have hz := hb.size
      have hjl : j < xs.length := by omega
      generalize ga xs j = x at *
      simp only [pred_succ]
      go_wp2_with (at_builtin; refine wpList_pushO rfl (.tmp 13) (.tmp 18) 22 rfl i0 _ 8 Try.underlying22 hi0 hz0 hz1 hz2 rfl rfl (ho.alloc _) wr.heap.size x rfl (cell_new _ _ _) rfl (by omega) (by omega) (by simp; omega) ?_; intro A3 c3 w3 ho3 hg3 hb3)
      have hb4 := below_push hz hb hlo hg3
      go_roundw
      case rel => exact ⟨j, by omega, by go_num, ⟨A3, c3, ys ++ [x], by simp, ho3, Lib.hid (by rw [hst.out, hys.out])⟩, hb4⟩
      case measure => simp [intOf]

theorem drop_pred {xs : List Int} {j : Nat} (h0 : j ≠ 0) (hj : j - 1 < xs.length) : (xs.drop (j - 1)).reverse = (xs.drop j).reverse ++ [ga xs (j - 1)] := by
  obtain ⟨i, rfl⟩ : ∃ i, j = i + 1 := ⟨j - 1, by omega⟩
  exact rev_step hj

set_option maxHeartbeats 3200000 in
theorem sRevSt_any (s : St) (G T : Option Addr) (c d : Nat) (w : World) (hs : RdS w s G T) (hg : GoodT s) :
    Calls Try.prog 64 #[strV s G T c d] w (StNew (revS s) w) := by
  obtain ⟨i0, hi0, hz0, hz1, hz2⟩ := info_parts info_Int
  have bx := (((Blk.new w 27 (strC s G T c d)).alloc (.cells strZ 27)).alloc (.cells #[] 3)).alloc (.cells #[] 3)
  have bR := ((Blk.new2 w (.cells (strC s G T c d) 27) 27 strZ).alloc (.cells #[] 3)).alloc (.cells #[] 3)
  have hA := (OwnL.of_cap (lo := w.heap.size + 2) fI (Blk.new3 w (.cells (strC s G T c d) 27) (.cells strZ 27) 3 #[]) (by omega) rfl (by simp [maxLen])).o.alloc (.cells #[] 3)
  have hC : Blk ((((w.alloc (.cells (strC s G T c d) 27)).alloc (.cells strZ 27)).alloc (.cells #[] 3)).alloc (.cells #[] 3)) (w.heap.size + 1 + 1 + 1) 3 #[] := by
    have := Blk.new (((w.alloc (.cells (strC s G T c d) 27)).alloc (.cells strZ 27)).alloc (.cells #[] 3)) 3 #[]
    simpa using this
  replace hC := (OwnL.of_cap (lo := w.heap.size + 2) fI hC (by omega) rfl (by simp [maxLen])).o
  have hAC : Sep (some (⟨w.heap.size + 1 + 1, 0, none⟩ : Addr)) (some (⟨w.heap.size + 1 + 1 + 1, 0, none⟩ : Addr)) := fun b h1 h2 => by simp at h1 h2; omega
  have hB := ((((Below.refl w.heap.size w).alloc (Nat.le_refl _) (.cells (strC s G T c d) 27)).alloc (by simp) (.cells strZ 27)).alloc (by simp; omega) (.cells #[] 3)).alloc (by simp; omega) (.cells #[] 3)
  have hgr4 := hg.g2
  have htl := Lib.hid hg.tl
  obtain ⟨k0, k1, k2⟩ := loadS bx
  clear hg
  go_enter Try.func64, Try.ntmps64
  go_wp2_with fail
  clear k0 k1 k2
  go_loopw [3, 4, 5] (fun v3 v4 vi wr => ∃ m : Nat, m ≤ s.gr.length ∧ vi = .int .i64 ((m : Int) - 1) ∧ (∃ A1 c1 ys B1 d1 zs, v3 = .slice A1 ys.length c1 ∧ v4 = .slice B1 zs.length d1 ∧ OwnO fI wr (w.heap.size + 2) 3 A1 c1 ys ∧ OwnO fI wr (w.heap.size + 2) 3 B1 d1 zs ∧ Sep A1 B1 ∧ Hid (ys = (s.gr.drop m).reverse) ∧ Hid (zs = (s.tr.drop (m - 1)).reverse)) ∧ Blk wr w.heap.size 27 (strC s G T c d) ∧ Blk wr (w.heap.size + 1) 27 strZ ∧ Below w.heap.size w wr) (fun _ _ vi _ => (intOf vi + 1).toNat)
  case atStart => exact ⟨s.gr.length, Nat.le_refl _, rfl, ⟨_, _, [], _, _, [], rfl, rfl, hA, hC, hAC, Lib.hid (by simp), Lib.hid (by have := htl.out; simp; omega)⟩, bx, bR, hB⟩
  case round =>
    clear hA hC hAC bx bR hB
    obtain ⟨m, hm, rfl, ⟨A1, c1, ys, B1, d1, zs, rfl, rfl, hA, hC, hAC, hys, hzs⟩, bx, bR, hb⟩ := hrel
    have hys2 : ys.length ≤ 4 := by rw [hys.out]; simp; omega
    have hzs2 : zs.length ≤ 4 := by rw [hzs.out]; have := htl.out; simp; omega
    have hz := hb.size
    have hzR := bR.lt
    cases m with
    | zero =>
      have h0 : ((0 : Nat) : Int) - 1 = -1 := rfl
      obtain ⟨k0, k1, k2⟩ := loadS bx
      have e0 := bR.cell 0
      have e1 := bR.cell 1
      have e2 := bR.cell 2
      have ef := bR.frozen
      simp at e0 e1 e2
      have HA := Lib.hid (hA.mono (lo' := w.heap.size) (by omega))
      have HC := Lib.hid (hC.mono (lo' := w.heap.size) (by omega))
      have n1 := sepN hA (b := w.heap.size + 1) (by omega)
      have n2 := sepN hC (b := w.heap.size + 1) (by omega)
      clear hA hC bx bR
      simp only [h0]
      have e : Hid (ys = s.gr.reverse ∧ zs = s.tr.reverse) := Lib.hid ⟨by have := hys.out; simpa using this, by have := hzs.out; simpa using this⟩
      obtain ⟨cy, gr, tr⟩ := s
      simp only at e
      go_wp2_with fail
      obtain ⟨rfl, rfl⟩ := e.out
      refine bodyPost_ret (v := strV (revS ⟨cy, gr, tr⟩) A1 B1 c1 d1) (by simp [results, Try.results64, go_sem, e0, e1, e2, revS]) rfl ⟨A1, B1, c1, d1, rfl, ?_, ?_, hAC, ?_⟩
      · exact own_set3 HA.out n1
      · exact own_set3 HC.out n2
      · exact below_set3 hb (by omega)
    | succ j =>
      have hjl : j < s.gr.length := by omega
      have hgj := hs.hg.below hb
      obtain ⟨b1, o1, rfl, hc⟩ := hgj.at (k := j) (by omega)
      rw [ga_at (by omega)] at hc
      simp only [fI] at hc
      have hst := Lib.hid (rev_step (xs := s.gr) (j := j) (by omega))
      have hlo := hA.lt
      have hlc := hC.lt
      obtain ⟨k0, k1, k2⟩ := loadS bx
      generalize ga s.gr j = x at *
      simp only [pred_succ]
      have hcl := World.block_lt_of_cell? wr _ hc
      have htj := hs.ht.below hb
      by_cases hj0 : j = 0
      · subst hj0
        simp only [Nat.add_zero] at hc
        have hcast : ((0 : Nat) : Int) = 0 := rfl
        simp only [hcast]
        go_wp2_with (at_builtin; go_must (refine wpList_pushO rfl (.tmp 16) (.tmp 22) 22 rfl i0 _ 8 Try.underlying22 hi0 hz0 hz1 hz2 rfl rfl (hA.alloc (.cells #[.int .i64 x] 3)) wr.heap.size x rfl (cell_new _ _ _) rfl (by omega) (by omega) (by simp; omega) ?_); intro A3 c3 w3 ho3 hg3 hb3)
        have bx3 := (bx.alloc (.cells #[.int .i64 x] 3)).grown hg3 (fun e => by have := (hlo _ e.symm).1; omega)
        have bR3 := (bR.alloc (.cells #[.int .i64 x] 3)).grown hg3 (fun e => by have := (hlo _ e.symm).1; omega)
        have hC3 := (hC.alloc (.cells #[.int .i64 x] 3)).grown hg3 hAC.or
        have hAC3 := hAC.push (n := wr.heap.size) (fun b hb => (hlc b hb).2) (hb3.imp id fun h b hb => by have := h b hb; simp at this; omega)
        have hb4 := below_push hz hb (fun b hb => by have := hlo b hb; omega) hg3
        go_roundw
        case rel => exact ⟨0, by omega, rfl, ⟨A3, c3, ys ++ [x], B1, d1, zs, by simp, rfl, ho3, hC3, hAC3, Lib.hid (by rw [hst.out, hys.out]), Lib.hid (by rw [hzs.out])⟩, bx3, bR3, hb4⟩
        case measure => simp [intOf]
      · have hjt : j - 1 < s.tr.length := by have := htl.out; omega
        obtain ⟨b2, o2, rfl, hct⟩ := htj.at hjt
        rw [ga_at hjt] at hct
        simp only [fI] at hct
        have hst2 := Lib.hid (drop_pred (xs := s.tr) hj0 hjt)
        have hclt := World.block_lt_of_cell? wr _ hct
        obtain ⟨i, rfl⟩ : ∃ i, j = i + 1 := ⟨j - 1, by omega⟩
        simp only [Nat.add_sub_cancel] at hct hjt hst2
        obtain ⟨y, hy⟩ : ∃ y, y = ga s.tr i := ⟨_, rfl⟩
        rw [← hy] at hct hst2
        have hyE := Lib.hid hy.symm
        clear hy
        go_wp2_with (first | (at_builtin; refine wpList_pushO rfl (.tmp 16) (.tmp 22) 22 rfl i0 _ 8 Try.underlying22 hi0 hz0 hz1 hz2 rfl rfl (hA.alloc (.cells #[.int .i64 x] 3)) wr.heap.size x rfl (cell_new _ _ _) rfl (by omega) (by omega) (by simp; omega) ?_; intro A3 c3 w3 ho3 hg3 hb3; have bx3 := (bx.alloc (.cells #[.int .i64 x] 3)).grown hg3 (fun e => by have := (hlo _ e.symm).1; omega); have bR3 := (bR.alloc (.cells #[.int .i64 x] 3)).grown hg3 (fun e => by have := (hlo _ e.symm).1; omega); have hC3 := (hC.alloc (.cells #[.int .i64 x] 3)).grown hg3 hAC.or; have hAC3 := hAC.push (n := wr.heap.size) (fun b hb => (hlc b hb).2) (hb3.imp id fun h b hb => by have := h b hb; simp at this; omega); have hb4 := below_push hz hb (fun b hb => by have := hlo b hb; omega) hg3; obtain ⟨b4, o4, e4, hct3⟩ := (hs.ht.below hb4).at hjt; obtain ⟨rfl, rfl⟩ : b2 = b4 ∧ o2 = o4 := (by simpa using e4); rw [ga_at hjt, hyE.out] at hct3; simp only [fI] at hct3; obtain ⟨p0, p1, p2⟩ := loadS bx3; have hz4 := hb4.size; have hzR3 := bR3.lt; clear k0 k1 k2 e4 hct hc) | (at_builtin; go_must (refine wpList_pushO rfl (.tmp 26) (.tmp 33) 22 rfl i0 _ 8 Try.underlying22 hi0 hz0 hz1 hz2 rfl rfl (hC3.alloc (.cells #[.int .i64 y] 3)) w3.heap.size y rfl (cell_new _ _ _) rfl (by omega) (by omega) (by simp; omega) ?_); intro C3 d3 w4 hD3 hg4 hb5))
        have lA := ho3.lt
        have lC := hC3.lt
        have bx4 := (bx3.alloc (.cells #[.int .i64 y] 3)).grown hg4 (fun e => by have := (lC _ e.symm).1; omega)
        have bR4 := (bR3.alloc (.cells #[.int .i64 y] 3)).grown hg4 (fun e => by have := (lC _ e.symm).1; omega)
        have hA4 := (ho3.alloc (.cells #[.int .i64 y] 3)).grown hg4 hAC3.symm.or
        have hAC4 := (hAC3.symm.push (n := w3.heap.size) (fun b hb => (lA b hb).2) (hb5.imp id fun h b hb => by have := h b hb; simp at this; omega)).symm
        have hb6 := below_push hz4 hb4 (fun b hb => by have := lC b hb; omega) hg4
        go_roundw
        case rel => exact ⟨i + 1, by omega, by go_num, ⟨A3, c3, ys ++ [x], C3, d3, zs ++ [y], by simp, by simp, hA4, hD3, hAC4, Lib.hid (by rw [hst.out, hys.out]), Lib.hid (by rw [hzs.out]; exact hst2.out.symm)⟩, bx4, bR4, hb6⟩
        case measure => simp [intOf]; omega
end Go.Proofs.Ytmnapeefclkldaa
