/-
  Plans of the program: the movements with green.
-/
import Derived.Test.YtcckipckgnkieaaPlImp5
namespace Go.Proofs.Ytcckipckgnkieaa
open Go.RowKit
set_option linter.unusedVariables false

theorem keep_take {f g : List Int} {k : Nat} (hk : k < f.length) : (f.take (k + 1)).filter (fun x => decide (x ∈ g)) = (f.take k).filter (fun x => decide (x ∈ g)) ++ (if ga f k ∈ g then [ga f k] else []) := by
  rw [List.take_succ_eq_append_getElem hk, List.filter_append, ga_at hk]
  by_cases h : ga f k ∈ g <;> simp [h]

set_option maxRecDepth 100000 in
set_option maxHeartbeats 3200000 in
theorem iGrnI_any (p : Pl) (s : Int) (T S : Option Addr) (c d : Nat) (w : World) (hr : RdP w T S p) (hg : GoodP p) (hsd : p.sg.length ≤ d) (h0 : 0 ≤ s) (h1 : s < cyc p) :
    Calls Try.prog 44 #[plV p T c S d, .int .i64 s] w fun e w' => (∃ A c', e = .returned (.slice A (grnP p s).length c') ∧ RdL fI w' A (grnP p s)) ∧ Below w.heap.size w w' := by
  obtain ⟨i0, hi0, hz0, hz1, hz2⟩ := info_parts info_Int
  have hs5 := hg.s2
  have hs1 := hg.s1
  have hcb := (cyc_bd hg).2
  obtain ⟨hB, hb0, hb1, hlt⟩ := boxP_at w p T c S d
  have Hg := Lib.hid hg
  have Hr := Lib.hid hr
  have H1 := Lib.hid h1
  have hs225 : s < 225 := by omega
  have hzW := hB.size
  have hbeg := fun (n : Nat) (hn : n ≤ p.sg.length) y (hy : Below w.heap.size w y) => iBeg_v p n (bg p n) rfl T S c d y (hr.below hy) hg hn hsd
  clear hr hg h1
  go_enter Try.func44, Try.ntmps44
  go_wp2_with fail
  generalize w.alloc (.cells (plC p T c S d) 26) = W at *
  go_loopw [5] (fun vi wr => ∃ i : Nat, i < p.sg.length ∧ vi = .int .i64 i ∧ (∀ j, i < j → j < p.sg.length → s < bg p j) ∧ Below W.heap.size W wr) (fun vi _ => (intOf vi).toNat)
  case atStart => exact ⟨p.sg.length - 1, by omega, by congr 1; omega, fun j h1 h2 => by omega, Below.refl _ _⟩
  case round =>
    obtain ⟨i, hil, rfl, hp, hW⟩ := hrel
    have Hp := Lib.hid hp
    have V := hB.trans (hW.mono hzW)
    have c0 := (hW.cell (World.block_lt_of_cell? W _ hb0)).trans hb0
    have c1' := (hW.cell (World.block_lt_of_cell? W _ hb1)).trans hb1
    have hbi := hbeg i (by omega) wr V
    clear hp
    by_cases hlt2 : s < bg p i
    · have hi0 : 0 < i := by
        rcases Nat.eq_zero_or_pos i with e | e
        · subst e; simp [bg] at hlt2; omega
        · exact e
      have H := Lib.hid (show ∀ j, i - 1 < j → j < p.sg.length → s < bg p j from fun j h1 h2 => by
        by_cases e : j = i
        · subst e; exact hlt2
        · exact Hp.out j (by omega) h2)
      generalize bg p i = u at *
      go_wp2_with fail
      refine hbi.mono ?_
      rintro e w2 ⟨rfl, v2⟩
      have W2 := hW.trans (v2.mono hW.size)
      clear hbi v2 c0 c1' hbeg
      go_wp2_with fail
      go_roundw
      case rel => exact ⟨i - 1, by omega, by congr 1; omega, H.out, W2⟩
      case measure => simp [intOf]; omega
    · have hle : bg p i ≤ s := by omega
      have hst : stg p s = i := by
        refine stg_uniq Hg.out h0 H1.out hil hle ?_
        by_cases e : i + 1 = p.sg.length
        · rw [e]; exact H1.out
        · exact Hp.out (i + 1) (by omega) (by omega)
      have Hout := Lib.hid (show grnP p s = if s - bg p i < gr p i then ph p i else keepL (ph p i) (ph p (nx p i)) by rw [grnP, hst]; rfl)
      obtain ⟨b, o, A, c1, rfl, e1, e1g, e2, -⟩ := Hr.out.s i hil
      obtain ⟨b', o', A', c2, e', e3, -, e4, -⟩ := Hr.out.s (nx p i) (nx_lt Hg.out i)
      obtain ⟨rfl, rfl⟩ : b = b' ∧ o = o' := by simpa using e'
      have hbd := bg_ge Hg.out hil
      have hfl := (Hg.out.m i hil).len
      have hgl := (Hg.out.m _ (nx_lt Hg.out i)).len
      have hn8 := Hg.out.c.n2
      have hnx := fun y (hy : Below w.heap.size w y) => iNext_any p i T (some ⟨b, o, none⟩) c d y (Hr.out.below hy) Hg.out hil A' c2 ⟨b, o, rfl, (hy.cell (World.block_lt_of_cell? w _ e3)).trans e3⟩
      have q1 := (hB.cell (World.block_lt_of_cell? w _ e1)).trans e1
      have q2 := (hB.cell (World.block_lt_of_cell? w _ e1g)).trans e1g
      have hbg := fun y (hy : Below w.heap.size w y) => hbeg i (by omega) y hy
      generalize ph p (nx p i) = g at *
      generalize ph p i = f at *
      generalize bg p i = u at *
      generalize gr p i = x at *
      have hi1 : (i : Int) < (p.sg.length : Int) := by omega
      clear hst Hp e' e1 e1g e3 hbeg hlt2
      go_wp2_with fail
      refine hbi.mono ?_
      rintro e w2 ⟨rfl, v2⟩
      have W2 := hW.trans (v2.mono hW.size)
      have d0 := (W2.cell (World.block_lt_of_cell? W _ hb0)).trans hb0
      have d1 := (W2.cell (World.block_lt_of_cell? W _ hb1)).trans hb1
      have d2 := (W2.cell (World.block_lt_of_cell? W _ q1)).trans q1
      clear hbi v2 c0 c1' hW V
      have k0 := Grow.cell hb0
      have k1 := Grow.cell hb1
      have k2 := Grow.cell q1
      have k3 := Grow.cell q2
      have hbg' : ∀ y : Grow W, _ := fun y => hbg y.x (hB.trans (y.h.mono hzW))
      have hw1 : IntKind.i64.wrap (s - u) = s - u := by simp [IntKind.wrap, IntKind.bits, IntKind.signed]; omega
      by_cases hlt3 : s - u < x
      · have Ho := Lib.hid (show f = grnP p s by rw [Hout.out, if_pos hlt3])
        have hd : decide (s - u < x) = true := decide_eq_true hlt3
        clear hlt3 Hout
        go_wp2_with fail
        refine wp_region_grow W (by kernel_rfl) (by kernel_rfl) W2 ?_
        repeat (go_big_quiet_step ((go_at_call 76; exact grow_of (hbg' _))))
        refine wpQuiet_nil ?_
        rintro _ ⟨z, rfl⟩
        clear k0 k1 k2 k3 hbg' d0 d1 d2
        go_wp2_with fail
        go_ret
        exact ⟨⟨A, c1, by rw [← Ho.out]; rfl, by rw [← Ho.out]; exact e2.below (hB.trans (z.h.mono hzW))⟩, hB.trans (z.h.mono hzW)⟩
      · have Ho := Lib.hid (show keepL f g = grnP p s by rw [Hout.out, if_neg hlt3])
        have hd : decide (s - u < x) = false := decide_eq_false hlt3
        clear hlt3 Hout
        go_wp2_with fail
        refine wp_region_grow W (by kernel_rfl) (by kernel_rfl) W2 ?_
        repeat (go_big_quiet_step ((go_at_call 76; exact grow_of (hbg' _))))
        refine wpQuiet_nil ?_
        rintro _ ⟨z, rfl⟩
        have W3 := z.h
        have hO0 : OwnO fI z.x W.heap.size 3 none 0 [] := OwnO.nil _ _ _ _
        clear k0 k1 k2 k3 hbg' d0 d1 d2
        go_wp2_with fail
        go_loopw [7, 42] (fun v7 vi wr => ∃ k : Nat, k ≤ f.length ∧ vi = .int .i64 k ∧ (∃ D dd ys, v7 = .slice D (ys : List Int).length dd ∧ ys = (f.take k).filter (fun x => decide (x ∈ g)) ∧ OwnO fI wr W.heap.size 3 D dd ys) ∧ Below W.heap.size W wr) (fun _ vi _ => f.length - (intOf vi).toNat)
        case atStart => exact ⟨0, Nat.zero_le _, rfl, ⟨none, 0, [], rfl, by simp, hO0⟩, W3⟩
        case round =>
          clear hO0 W3
          obtain ⟨k, hk, rfl, ⟨D, dd, ys, rfl, hys, hO⟩, hW⟩ := hrel
          have hyl : ys.length ≤ 8 := by
            rw [hys]
            have := List.length_filter_le (fun x => decide (x ∈ g)) (f.take k)
            simp only [List.length_take] at this
            omega
          have Hys := Lib.hid hys
          have hzr := hW.size
          have V := hB.trans (hW.mono hzW)
          clear hys
          by_cases hltk : k < f.length
          · obtain ⟨b3, o3, rfl, hel⟩ := elemAt e2 hltk
            have hel' := (V.cell (World.block_lt_of_cell? w _ hel)).trans hel
            have c0 := (hW.cell (World.block_lt_of_cell? W _ hb0)).trans hb0
            have c1' := (hW.cell (World.block_lt_of_cell? W _ hb1)).trans hb1
            have Hk := Lib.hid (keep_take (g := g) hltk)
            have hnx' := hnx wr V
            have hct := fun v hv y (hy : Below w.heap.size w y) => contains_v g (ga f k) v hv A' c2 y (e4.below hy) (by omega)
            generalize ga f k = z1 at *
            by_cases hm : z1 ∈ g
            · have hct' := hct true (decide_eq_true hm)
              have Hk2 := Lib.hid (show (f.take (k + 1)).filter (fun x => decide (x ∈ g)) = ys ++ [z1] by rw [Hk.out, if_pos hm, Hys.out])
              clear hct hm hel
              go_wp2_with fail
              refine hnx'.mono ?_
              rintro e w4 ⟨rfl, v4⟩
              have W4 := hW.trans (v4.mono hzr)
              have hO4 := hO.below v4
              have ct := hct' w4 (hB.trans (W4.mono hzW))
              have hz4 := W4.size
              clear hnx' hct' v4 hO hW c0 c1' V hel'
              go_wp2_with fail
              refine ct.mono ?_
              rintro e w5 ⟨rfl, v5⟩
              have W5 := W4.trans (v5.mono hz4)
              have hO5 := hO4.below v5
              have hz5 := W5.size
              have hOl := hO5.lt
              clear ct v5 hO4 W4
              go_wp2_with (at_builtin; go_must (refine wpList_pushO rfl (.tmp 51) (.tmp 53) 32 rfl i0 _ 8 Try.underlying32 hi0 hz0 hz1 hz2 rfl rfl (hO5.alloc (.cells #[.int .i64 z1] 3)) w5.heap.size z1 rfl (cell_new _ _ _) rfl (by omega) (by omega) (by simp; omega) ?_); intro D6 d6 w6 hO6 hg6 hb6)
              have W6 := below_push hz5 W5 hOl hg6
              go_roundw
              case rel => exact ⟨k + 1, by omega, by go_num, ⟨D6, d6, ys ++ [z1], by simp, Hk2.out.symm, hO6⟩, W6⟩
              case measure => simp [intOf]; omega
            · have hct' := hct false (decide_eq_false hm)
              have Hk2 := Lib.hid (show (f.take (k + 1)).filter (fun x => decide (x ∈ g)) = ys by rw [Hk.out, if_neg hm, Hys.out, List.append_nil])
              clear hct hm hel
              go_wp2_with fail
              refine hnx'.mono ?_
              rintro e w4 ⟨rfl, v4⟩
              have W4 := hW.trans (v4.mono hzr)
              have hO4 := hO.below v4
              have ct := hct' w4 (hB.trans (W4.mono hzW))
              have hz4 := W4.size
              clear hnx' hct' v4 hO hW c0 c1' V hel'
              go_wp2_with fail
              refine ct.mono ?_
              rintro e w5 ⟨rfl, v5⟩
              have W5 := W4.trans (v5.mono hz4)
              have hO5 := hO4.below v5
              clear ct v5 hO4 W4
              go_wp2_with fail
              go_roundw
              case rel => exact ⟨k + 1, by omega, by go_num, ⟨D, dd, ys, rfl, Hk2.out.symm, hO5⟩, W5⟩
              case measure => simp [intOf]; omega
          · obtain rfl : k = f.length := by omega
            have Hf := Lib.hid (show ys = grnP p s by rw [← Ho.out, Hys.out, List.take_length]; rfl)
            go_wp2_with fail
            go_ret
            exact ⟨⟨D, dd, by rw [← Hf.out]; rfl, by rw [← Hf.out]; exact hO.rd⟩, V⟩
end Go.Proofs.Ytcckipckgnkieaa
