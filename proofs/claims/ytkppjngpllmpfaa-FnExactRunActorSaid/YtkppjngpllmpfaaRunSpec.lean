/-
  RunActor: the reference's.
-/
import Derived.Test.YtkppjngpllmpfaaRunImpl
import Derived.Test.YtkppjngpllmpfaaRegM
namespace Go.Proofs.Ytkppjngpllmpfaa
open Go.RowKit
set_option linter.unusedVariables false

set_option maxHeartbeats 3200000 in
theorem sRun_any (a : Ctl) (cs : List (List Bool)) (A C : Option Addr) (c d : Nat) (w : World) (hr : RdL fB w A a.wa) (hc : RdSS fB w C cs) (hn : cs.length ≤ 2000000) :
    Calls Try.prog 10 #[acV a A c, .slice C cs.length d] w (NewS fI 3 w (runF a cs)) := by
  obtain ⟨i0, hi0, hz0, hz1, hz2⟩ := info_parts info_Int
  have hb := (Blk.new w 25 (acC a A c)).alloc (.cells #[] 3)
  have hB := ((Below.refl w.heap.size w).alloc (Nat.le_refl _) (.cells (acC a A c) 25)).alloc (by simp) (.cells #[] 3)
  have hs0 := (OwnL.of_cap (lo := w.heap.size) (cap := 0) fI (Blk.new2 w (.cells (acC a A c) 25) 3 #[]) (by omega) rfl (by simp [maxLen])).o
  have hbl := hb.lt
  go_enter Try.func10, Try.ntmps10
  go_wp2_with fail
  refine (sValidA_any a A c _).mono ?_
  rintro e w1 ⟨rfl, v0⟩
  replace hb := hb.below v0 hbl
  replace hs0 := hs0.below v0
  replace hB := hB.trans (v0.mono hB.size)
  clear v0
  have hno : ∀ w', Below w.heap.size w w' → validR a cs = false → NewS fI 3 w (runF a cs) (.returned (.slice none 0 0)) w' := fun w' hB' h => by
    rw [show runF a cs = [] by simp [runF, h]]
    exact ⟨none, 0, rfl, OwnO.nil _ _ _ _, hB'⟩
  cases hv : validA a with
  | false =>
    have H := Lib.hid (hno _ hB (by simp [validR, hv]))
    clear hno hs0
    go_wp2_with fail
    go_ret
    exact H.out
  | true =>
    by_cases hl : 150 < cs.length
    · have H := Lib.hid (hno _ hB (by simp [validR]; omega))
      clear hno hs0
      go_wp2_with fail
      go_ret
      exact H.out
    obtain ⟨f0, f1, f2, f3, f4, f5⟩ := loadT hb
    have Hno := Lib.hid hno
    have Hv := Lib.hid hv
    clear hno hv
    go_wp2_with fail
    go_loopw [6] (fun i wr => ∃ k : Nat, k ≤ cs.length ∧ i = .int .i64 k ∧ (∀ j (hj : j < cs.length), j < k → (cs[j].length : Int) = a.st) ∧ ∃ m, wr = w1.drewN m) (fun i _ => cs.length - (intOf i).toNat)
    case atStart => exact ⟨0, Nat.zero_le _, rfl, fun j hj h => by omega, 0, rfl⟩
    case round =>
      obtain ⟨k, hk, rfl, hfit, m, rfl⟩ := hrel
      by_cases hlt : k < cs.length
      · obtain ⟨b, o, A', c', rfl, hcell, -⟩ := (hc.below hB).at hlt
        have hfn := Lib.hid (fit_no (a := a) hlt)
        have hfy := Lib.hid (show (cs[k].length : Int) = a.st → ∀ j (hj : j < cs.length), j < k + 1 → (cs[j].length : Int) = a.st from fun h j hj hj2 => by
          by_cases e : j = k
          · subst e; exact h
          · exact hfit j hj (by omega))
        clear hfit hr hc hs0 hb
        generalize cs[k].length = n at *
        by_cases hm : (n : Int) = a.st
        · have hm1 : ((n : Int) == a.st) = true := by simpa using hm
          have hm2 : ((n : Int) != a.st) = false := by simpa using hm
          have hN := Lib.hid (hfy.out hm)
          clear hm hfy hfn
          go_wp2_with fail
          go_quiet (fail)
          go_wp2_with fail
          go_roundw
          case rel => exact ⟨k + 1, by omega, by go_num, hN.out, m + nq, rfl⟩
          case measure => simp [intOf]; omega
        · have hm1 : ((n : Int) == a.st) = false := by simpa using hm
          have hm2 : ((n : Int) != a.st) = true := by simpa using hm
          have hN := Lib.hid (fun w' hB' => Hno.out w' hB' (hfn.out hm))
          clear hm hfy hfn
          go_wp2_with fail
          go_quiet (fail)
          go_wp2_with fail
          go_ret
          exact hN.out _ (below_drewN (below_drewN hB _) _)
      · obtain rfl : k = cs.length := by omega
        have hvr := fit_yes Hv.out (by omega) (fun j hj => hfit j hj hj)
        obtain ⟨hg, _, hcl⟩ := validR_parts hvr
        have hsg := Lib.hid (fun k hk => stA_good hvr k hk)
        have hsf := Lib.hid (fun (k : Nat) (hk : k < cs.length) => stA_fit hvr hk)
        have hss := Lib.hid (fun (k : Nat) (hk : k < cs.length) => stA_step (a := a) (cs := cs) hk)
        have hfin := Lib.hid (show runF a cs = runL a cs cs.length by rw [runF, if_pos hvr])
        have hb4 := hb.below (below_drewN (Below.refl _ _) m) hb.lt
        have hB4 := below_drewN hB m
        have hs := hs0.below (below_drewN (Below.refl _ _) m)
        clear hfit hvr hg hcl Hno hb hB hs0 f0 f1 f2 f3 f4 f5
        go_wp2_with fail
        generalize w1.drewN m = w4 at *
        obtain ⟨As0, hAs0⟩ : ∃ As0, As0 = (some ⟨w.heap.size + 1, 0, none⟩ : Option Addr) := ⟨_, rfl⟩
        rw [← hAs0] at hs ⊢
        clear hAs0
        go_loopw [5, 7] (fun v7 i wr => ∃ k : Nat, k ≤ cs.length ∧ i = .int .i64 k ∧ (∃ zs As c3, v7 = .slice As zs.length c3 ∧ OwnO fI wr w.heap.size 3 As c3 zs ∧ zs = runL a cs k) ∧ (∃ A2 c2, Blk wr w.heap.size 25 (acC (stA a cs k) A2 c2) ∧ ((k = 0 ∧ A2 = A ∧ c2 = c) ∨ OwnO fB wr w.heap.size 4 A2 c2 (stA a cs k).wa)) ∧ Below w.heap.size w wr) (fun _ i _ => cs.length - (intOf i).toNat)
        case atStart => exact ⟨0, Nat.zero_le _, rfl, ⟨[], As0, 0, rfl, hs, rfl⟩, ⟨A, c, hb4, .inl ⟨rfl, rfl, rfl⟩⟩, hB4⟩
        case round =>
          clear hs hb4 hB4
          obtain ⟨k, hk, rfl, ⟨zs, As, c3, rfl, hs, hzs⟩, ⟨A2, c2, hb, hA⟩, hB⟩ := hrel
          have Hzs := Lib.hid hzs
          have Hzl := Lib.hid (show zs.length = k from by rw [hzs, runL_length])
          clear hzs
          by_cases hlt : k < cs.length
          case neg =>
            obtain rfl : k = cs.length := by omega
            clear hb hA
            go_wp2_with fail
            go_ret
            rw [hfin.out, ← Hzs.out]
            exact ⟨As, c3, rfl, hs, hB⟩
          have hrd : RdL fB wr A2 (stA a cs k).wa := by
            rcases hA with ⟨rfl, rfl, rfl⟩ | h
            · exact hr.below hB
            · exact h.rd
          clear hA
          obtain ⟨hgk, -, -⟩ := hsg.out k (by omega)
          have hlk := hsf.out k hlt
          have hsk := hss.out k hlt
          obtain ⟨b, o, A', c', rfl, hcw, hrk⟩ := hc.at hlt
          have hbw : b < w.heap.size := World.block_lt_of_cell? w _ hcw
          have hcell := (hB.cell hbw).trans hcw
          have hlen5 : cs[k].length ≤ 5 := by have := hgk.wa; have := hgk.st; omega
          obtain ⟨x, hx⟩ : ∃ x, x = stA a cs k := ⟨_, rfl⟩
          rw [← hx] at hgk hlk hsk hb hrd
          have hstep := fun W h1 h2 => sStepA_any x (cs[k]'hlt) A2 A' c2 c' W hgk hlk h1 h2
          obtain ⟨x1, hx1⟩ : ∃ x1, x1 = stepF x cs[k] := ⟨_, rfl⟩
          rw [← hx1] at hstep
          have hout : Hid (outA (stA a cs (k + 1)) = outA x1) := Lib.hid (by rw [hsk, hx1])
          have Hx1 : Hid (x1 = stA a cs (k + 1)) := Lib.hid (by rw [hsk, hx1])
          have hrk0 := hrk
          clear hx hlk hsk hx1
          generalize cs[k] = ck at *
          have hltI : (k : Int) < (cs.length : Int) := by omega
          go_wp2_with fail
          obtain ⟨S, hS⟩ : ∃ S : World → Prop, S = fun y => Blk y w.heap.size 25 (acC x A2 c2) ∧ y.cell? ⟨b, o + k, none⟩ = some (.slice A' ck.length c') := ⟨_, rfl⟩
          have hS1 : ∀ y, S y → Blk y w.heap.size 25 (acC x A2 c2) := fun y h => by rw [hS] at h; exact h.1
          have hS2' : ∀ y, S y → y.cell? ⟨b, o + k, none⟩ = some (.slice A' ck.length c') := fun y h => by rw [hS] at h; exact h.2
          have hS2 : ∀ y : Held S, y.x.cell? ⟨b, o + k, none⟩ = some (.slice A' ck.length c') := fun y => hS2' y.x y.h
          clear hS2'
          have hS3 : ∀ y, Blk y w.heap.size 25 (acC x A2 c2) → y.cell? ⟨b, o + k, none⟩ = some (.slice A' ck.length c') → S y := fun y h1 h2 => by rw [hS]; exact ⟨h1, h2⟩
          have k0 : ∀ y : Held S, y.x.cell? ⟨w.heap.size, 0, none⟩ = some (.int .i64 x.st) := fun y => (hS1 y.x y.h).cell 0
          have k1 : ∀ y : Held S, y.x.cell? ⟨w.heap.size, 1, none⟩ = some (.int .i64 x.now) := fun y => (hS1 y.x y.h).cell 1
          have k2 : ∀ y : Held S, y.x.cell? ⟨w.heap.size, 2, none⟩ = some (.int .i64 x.pa) := fun y => (hS1 y.x y.h).cell 2
          have k3 : ∀ y : Held S, y.x.cell? ⟨w.heap.size, 3, none⟩ = some (.int .i64 x.qu) := fun y => (hS1 y.x y.h).cell 3
          have k4 : ∀ y : Held S, y.x.cell? ⟨w.heap.size, 4, none⟩ = some (.int .i64 x.le) := fun y => (hS1 y.x y.h).cell 4
          have k5 : ∀ y : Held S, y.x.cell? ⟨w.heap.size, 5, none⟩ = some (.slice A2 x.wa.length c2) := fun y => (hS1 y.x y.h).cell 5
          have HS3 := Lib.hid hS3
          clear hS hS1 hS3
          refine wp_region_mix S [(0, 0), (0, 1), (0, 2), (0, 3), (0, 4), (1, 5)] [6] (by kernel_rfl) (by kernel_rfl) (HS3.out _ hb.drew hcell) ?_
          intro hne1
          simp only [mixOps, List.filterMap_cons, List.filterMap_nil, List.getElem?_toArray, List.getElem?_cons_zero, List.getElem?_cons_succ, Option.map_some]
          replace hb := hb.drew
          replace hB := hB.drew
          replace hs := hs.drew
          replace hrd := hrd.drew
          generalize wr.drew = wd at *
          repeat (refine mix_early (fun K hK => ?_); go_simp; refine hK _ ?_; clear hK K)
          clear k0 k1 k2 k3 k4 k5 hS2 hne1
          refine mix_late rfl (fun K hK => ?_)
          go_wp2_with fail
          refine (hstep _ hrd (hrk0.below hB)).mono ?_
          rintro e w6 ⟨A7, c7, rfl, h7, v0⟩
          have hgl := hb.lt
          replace hb := hb.below v0 hgl
          replace hs := hs.below v0
          have h7m := h7.mono hB.size
          replace hB := hB.trans (v0.mono hB.size)
          have hcell6 := (hB.cell hbw).trans hcw
          clear v0 hstep h7 hrd
          go_wp2_with fail
          refine ⟨HS3.out _ hb hcell6, ?_⟩
          refine mix_nil ?_
          simp only [tailT, List.filterMap_cons, List.filterMap_nil, List.getElem?_toArray, List.getElem?_cons_zero, List.getElem?_cons_succ]
          obtain ⟨f0, f1, f2, f3, f4, f5⟩ := loadT hb
          have hff := hb.frozen
          have hs7 := own_set6 (g := w.heap.size) (v0 := .int .i64 x1.st) (v1 := .int .i64 x1.now) (v2 := .int .i64 x1.pa) (v3 := .int .i64 x1.qu) (v4 := .int .i64 x1.le) (v5 := .slice A7 x1.wa.length c7) hs (neT hs hb (by decide))
          have ho7 := own_set6 (g := w.heap.size) (v0 := .int .i64 x1.st) (v1 := .int .i64 x1.now) (v2 := .int .i64 x1.pa) (v3 := .int .i64 x1.qu) (v4 := .int .i64 x1.le) (v5 := .slice A7 x1.wa.length c7) h7m (neT h7m hb (by decide))
          have hb7 := hb.set6 (v0 := .int .i64 x1.st) (v1 := .int .i64 x1.now) (v2 := .int .i64 x1.pa) (v3 := .int .i64 x1.qu) (v4 := .int .i64 x1.le) (v5 := .slice A7 x1.wa.length c7)
          have hB7 := below_set6 (g := w.heap.size) (v0 := .int .i64 x1.st) (v1 := .int .i64 x1.now) (v2 := .int .i64 x1.pa) (v3 := .int .i64 x1.qu) (v4 := .int .i64 x1.le) (v5 := .slice A7 x1.wa.length c7) hB (Nat.le_refl _)
          have hsz6 : (set6 w6 w.heap.size (.int .i64 x1.st) (.int .i64 x1.now) (.int .i64 x1.pa) (.int .i64 x1.qu) (.int .i64 x1.le) (.slice A7 x1.wa.length c7)).heap.size = w6.heap.size := by simp
          have hw6 := hB.size
          have hsl := hs7.lt
          have HB7 := Lib.hid hb7
          have HO7 := Lib.hid ho7
          have HBL := Lib.hid hB7
          have Hsz6 := Lib.hid hsz6
          clear hb hs h7m hB hb7 ho7 hB7 hsz6 hcell hcell6 HS3
          refine wpLateC_tail rfl (fun K hK => ?_)
          go_wp2_with fail
          refine wpLateC_nil (NoPanic.normal ?_)
          by_cases hle : 0 < x1.le
          · have Hout := Lib.hid (show outA x1 = -1 by simp [outA, hle])
            have hout2 : Hid (outA (stA a cs (k + 1)) = -1) := Lib.hid (hout.out.trans Hout.out)
            clear hout
            have hout := hout2
            go_wp2_with (at_builtin; go_must (refine wpList_pushO rfl (.tmp 46) (.tmp 47) 29 rfl i0 _ 8 Try.underlying29 hi0 hz0 hz1 hz2 rfl rfl (hs7.alloc _) w6.heap.size (-1) rfl (by have := cell_new (set6 w6 w.heap.size (.int .i64 x1.st) (.int .i64 x1.now) (.int .i64 x1.pa) (.int .i64 x1.qu) (.int .i64 x1.le) (.slice A7 x1.wa.length c7)) (.int .i64 (-1)) 3; rwa [Hsz6.out] at this) rfl (by have := Hzl.out; omega) (by omega) (by have := Hsz6.out; simp; omega) ?_); intro A3 c3 w8 ho3 hg3 hb3)
            have hb8 := (HB7.out.alloc (.cells #[.int .i64 (-1)] 3)).grown hg3 (fun e => neT hs7 HB7.out (by decide) _ e.symm rfl)
            have ho8 := (HO7.out.alloc (.cells #[.int .i64 (-1)] 3)).grown hg3 (sepT hs7 HO7.out (by decide)).or
            have hB8 := below_push HBL.out.size HBL.out hsl hg3
            go_roundw
            case rel => exact ⟨k + 1, by omega, by go_num, ⟨_, A3, c3, by simp, ho3, by rw [runL_succ, ← Hzs.out, hout.out]⟩, ⟨A7, c7, by rw [Hx1.out] at hb8; exact hb8, .inr (by rw [Hx1.out] at ho8; exact ho8)⟩, hB8⟩
            case measure => simp [intOf]; omega
          · have Hout := Lib.hid (show outA x1 = x1.now by simp [outA, hle])
            have hout2 : Hid (outA (stA a cs (k + 1)) = x1.now) := Lib.hid (hout.out.trans Hout.out)
            clear hout
            have hout := hout2
            go_wp2_with (at_builtin; go_must (refine wpList_pushO rfl (.tmp 49) (.tmp 52) 29 rfl i0 _ 8 Try.underlying29 hi0 hz0 hz1 hz2 rfl rfl (hs7.alloc _) w6.heap.size (x1.now) rfl (by have := cell_new (set6 w6 w.heap.size (.int .i64 x1.st) (.int .i64 x1.now) (.int .i64 x1.pa) (.int .i64 x1.qu) (.int .i64 x1.le) (.slice A7 x1.wa.length c7)) (.int .i64 (x1.now)) 3; rwa [Hsz6.out] at this) rfl (by have := Hzl.out; omega) (by omega) (by have := Hsz6.out; simp; omega) ?_); intro A3 c3 w8 ho3 hg3 hb3)
            have hb8 := (HB7.out.alloc (.cells #[.int .i64 (x1.now)] 3)).grown hg3 (fun e => neT hs7 HB7.out (by decide) _ e.symm rfl)
            have ho8 := (HO7.out.alloc (.cells #[.int .i64 (x1.now)] 3)).grown hg3 (sepT hs7 HO7.out (by decide)).or
            have hB8 := below_push HBL.out.size HBL.out hsl hg3
            go_roundw
            case rel => exact ⟨k + 1, by omega, by go_num, ⟨_, A3, c3, by simp, ho3, by rw [runL_succ, ← Hzs.out, hout.out]⟩, ⟨A7, c7, by rw [Hx1.out] at hb8; exact hb8, .inr (by rw [Hx1.out] at ho8; exact ho8)⟩, hB8⟩
            case measure => simp [intOf]; omega
end Go.Proofs.Ytkppjngpllmpfaa
