/-
  Plans of the program: valid plans.
-/
import Derived.Test.YtcckipckgnkieaaPlImp3
namespace Go.Proofs.Ytcckipckgnkieaa
open Go.RowKit
set_option linter.unusedVariables false

set_option maxRecDepth 100000 in
set_option maxHeartbeats 1600000 in
theorem iValP_v (p : Pl) (v : Bool) (hv : validP p = v) (T S : Option Addr) (c d : Nat) (w : World) (hr : RdP w T S p) (hs : SmP p 1000000000) :
    Calls Try.prog 36 #[plV p T c S d] w fun e w' => e = .returned (.bool v) ∧ Below w.heap.size w w' := by
  obtain ⟨hB, hb0, hb1, hlt⟩ := boxP_at w p T c S d
  have Hv := Lib.hid hv
  have Hs := Lib.hid hs
  have Hr := Lib.hid hr
  have hzW := hB.size
  have hsl := hs.s
  clear hv hs hr
  go_enter Try.func36, Try.ntmps36
  go_wp2_with fail
  generalize w.alloc (.cells (plC p T c S d) 26) = W at *
  cases h1 : validC p.tb with
  | false =>
    have H := Lib.hid (show false = v from Hv.out ▸ (dec_not.mpr fun h => (dec_not.mp h1) h.c).symm)
    refine (iValC_v p.tb false h1 T c _ (Hr.out.t.below hB) Hs.out.t Hs.out.r).mono ?_
    rintro e w1 ⟨rfl, v1⟩
    clear h1
    go_wp2_with fail
    go_ret
    exact ⟨ret_bool H.out, hB.trans (v1.mono hzW)⟩
  | true =>
    have Hc := Lib.hid (dec_iff.mp h1)
    have hn8 := Hc.out.n2
    refine (iValC_v p.tb true h1 T c _ (Hr.out.t.below hB) Hs.out.t Hs.out.r).mono ?_
    rintro e w1 ⟨rfl, v1⟩
    have c0 := (v1.cell (World.block_lt_of_cell? W _ hb0)).trans hb0
    have c1' := (v1.cell (World.block_lt_of_cell? W _ hb1)).trans hb1
    clear h1
    cases h2 : inB (p.sg.length : Int) 1 5 with
    | false =>
      have H := Lib.hid (show false = v from Hv.out ▸ (dec_not.mpr fun h => by
        have h3 := h.s1
        have h4 := h.s2
        have : inB (p.sg.length : Int) 1 5 = true := inB_iff.mpr (by omega)
        rw [h2] at this
        cases this).symm)
      have hin := within_any (p.sg.length : Int) 1 5 w1
      rw [h2] at hin
      clear h2
      go_wp2_with fail
      refine hin.mono ?_
      rintro e w2 ⟨rfl, rfl⟩
      go_wp2_with fail
      go_ret
      exact ⟨ret_bool H.out, hB.trans (v1.mono hzW)⟩
    | true =>
      have h5 : 1 ≤ p.sg.length ∧ p.sg.length ≤ 5 := by have := inB_iff.mp h2; omega
      have hin := within_any (p.sg.length : Int) 1 5 w1
      rw [h2] at hin
      clear h2
      go_wp2_with fail
      refine hin.mono ?_
      rintro e w2 ⟨rfl, rfl⟩
      clear hin
      go_wp2_with fail
      clear c0 c1'
      go_loopw [19] (fun vi wr => ∃ i : Nat, i ≤ p.sg.length ∧ vi = .int .i64 i ∧ (∀ j, j < i → 5 ≤ gr p j ∧ gr p j ≤ 40) ∧ Below W.heap.size W wr) (fun vi _ => p.sg.length - (intOf vi).toNat)
      case atStart => exact ⟨0, Nat.zero_le _, rfl, fun j hj => by omega, v1⟩
      case round =>
        clear v1
        obtain ⟨i, hi, rfl, hp, hW⟩ := hrel
        have Hp := Lib.hid hp
        have hzr := hW.size
        clear hp
        by_cases hlti : i < p.sg.length
        · obtain ⟨b, o, A, c2, rfl, e1, e2, -⟩ := Hr.out.s i hlti
          have q1 := ((hB.trans (hW.mono hzW)).cell (World.block_lt_of_cell? w _ e1)).trans e1
          have q2 := ((hB.trans (hW.mono hzW)).cell (World.block_lt_of_cell? w _ e2)).trans e2
          have W1 := hW.alloc hzr (.cells #[.slice A (ph p i).length c2, .int .i64 (gr p i)] 79)
          clear e1 e2
          cases hgb : inB (gr p i) 5 40 with
          | false =>
            have H := Lib.hid (show false = v from Hv.out ▸ (dec_not.mpr fun h => by
              have : inB (gr p i) 5 40 = true := inB_iff.mpr (h.g i hlti)
              rw [hgb] at this
              cases this).symm)
            have hin : ∀ y : World, Calls Try.prog 42 #[.int .i64 (gr p i), .int .i64 5, .int .i64 40] y fun e w' => e = .returned (.bool false) ∧ y = w' := fun y => hgb ▸ within_any (gr p i) 5 40 y
            clear Hp hgb
            generalize gr p i = g at *
            generalize (ph p i).length = m at *
            go_wp2_with fail
            refine (hin _).mono ?_
            rintro e w2 ⟨rfl, rfl⟩
            go_wp2_with fail
            go_ret
            exact ⟨ret_bool H.out, hB.trans (W1.mono hzW)⟩
          | true =>
            have H := Lib.hid (show ∀ j, j < i + 1 → 5 ≤ gr p j ∧ gr p j ≤ 40 from fun j hj => by
              by_cases e : j = i
              · subst e; exact inB_iff.mp hgb
              · exact Hp.out j (by omega))
            have hin : ∀ y : World, Calls Try.prog 42 #[.int .i64 (gr p i), .int .i64 5, .int .i64 40] y fun e w' => e = .returned (.bool true) ∧ y = w' := fun y => hgb ▸ within_any (gr p i) 5 40 y
            clear Hp hgb
            generalize gr p i = g at *
            generalize (ph p i).length = m at *
            go_wp2_with fail
            refine (hin _).mono ?_
            rintro e w2 ⟨rfl, rfl⟩
            go_wp2_with fail
            go_roundw
            case rel => exact ⟨i + 1, by omega, by go_num, H.out, W1⟩
            case measure => simp [intOf]; omega
        · obtain rfl : i = p.sg.length := by omega
          obtain ⟨u, hu⟩ : ∃ u, u = dec (∀ k, k < (phsN p p.sg.length).length → GoodM p.tb.length (gm (phsN p p.sg.length) k) ∧ Clear p.tb (gm (phsN p p.sg.length) k)) := ⟨_, rfl⟩
          have H := Lib.hid (show u = v by
            rw [hu, ← Hv.out]
            refine dec_eq ⟨fun h => ?_, fun h k hk => ?_⟩
            · have h' : ∀ k, k < p.sg.length → GoodM p.tb.length (ph p k) ∧ Clear p.tb (ph p k) := fun k hk => by
                have := h k (by rw [phsN_length]; exact hk)
                rwa [show gm (phsN p p.sg.length) k = ph p k from gm_mapN hk] at this
              exact ⟨Hc.out, h5.1, h5.2, fun k hk => (h' k hk).1, fun k hk => (h' k hk).2, Hp.out⟩
            · rw [phsN_length] at hk
              rw [show gm (phsN p p.sg.length) k = ph p k from gm_mapN hk]
              exact ⟨h.m k hk, h.cl k hk⟩)
          have Hu := Lib.hid hu.symm
          clear hu Hp hlti
          obtain ⟨S0, hS⟩ : ∃ S0 : World → Prop, S0 = fun y => y.cell? ⟨w.heap.size, 0, none⟩ = some (.slice T p.tb.length c) ∧ y.cell? ⟨w.heap.size, 1, none⟩ = some (.slice S p.sg.length d) := ⟨_, rfl⟩
          have hS1 : ∀ y, S0 y → y.cell? ⟨w.heap.size, 0, none⟩ = some (.slice T p.tb.length c) := fun y h => by rw [hS] at h; exact h.1
          have hS2 : ∀ y, S0 y → y.cell? ⟨w.heap.size, 1, none⟩ = some (.slice S p.sg.length d) := fun y h => by rw [hS] at h; exact h.2
          have k0 : ∀ y : Held S0, y.x.cell? ⟨w.heap.size, 0, none⟩ = some (.slice T p.tb.length c) := fun y => hS1 y.x y.h
          have k1 : ∀ y : Held S0, y.x.cell? ⟨w.heap.size, 1, none⟩ = some (.slice S p.sg.length d) := fun y => hS2 y.x y.h
          have hS3 : ∀ y, Below W.heap.size W y → S0 y := fun y hy => by
            rw [hS]
            exact ⟨(hy.cell (World.block_lt_of_cell? W _ hb0)).trans hb0, (hy.cell (World.block_lt_of_cell? W _ hb1)).trans hb1⟩
          have HS3 := Lib.hid hS3
          clear hS hS1 hS2 hS3
          go_wp2_with fail
          refine wp_region_mix S0 [(0, 0), (0, 1), (0, 2), (1, 3), (1, 4), (0, 5)] [] (by kernel_rfl) (by kernel_rfl) (HS3.out _ hW.drew) ?_
          intro hne1
          simp only [mixOps, List.filterMap_cons, List.filterMap_nil, List.getElem?_toArray, List.getElem?_cons_zero, List.getElem?_cons_succ, Option.map_some]
          replace hW := hW.drew
          generalize wr.drew = wd at *
          repeat (refine mix_early (fun K hK => ?_); go_simp; refine hK _ ?_; clear hK K)
          refine mix_late rfl (fun K hK => ?_)
          go_wp2_with fail
          refine (phases_any p T S c d wd (Hr.out.below (hB.trans (hW.mono hzW))) (by omega)).mono ?_
          rintro e w5 ⟨⟨C, c', rfl, hC⟩, v5⟩
          have W5 := hW.trans (v5.mono hW.size)
          clear v5 hW
          go_wp2_with fail
          refine ⟨HS3.out _ W5, ?_⟩
          refine mix_late rfl (fun K hK => ?_)
          go_wp2_with fail
          refine (iPhs_v p.tb (phsN p p.sg.length) u Hu.out T C c c' w5 (Hr.out.t.below (hB.trans (W5.mono hzW))) hC Hc.out (by rw [phsN_length]; omega) (fun k hk => by
            rw [phsN_length] at hk
            rw [show gm (phsN p p.sg.length) k = ph p k from gm_mapN hk]
            exact Hs.out.f k hk)).mono ?_
          rintro e w6 ⟨rfl, v6⟩
          have W6 := W5.trans (v6.mono W5.size)
          clear v6 hC W5
          go_wp2_with fail
          refine ⟨HS3.out _ W6, ?_⟩
          repeat (refine mix_early (fun K hK => ?_); go_simp; refine hK _ ?_; clear hK K)
          refine mix_nil ?_
          simp only [tailT, List.filterMap_nil]
          refine wpLateC_nil (NoPanic.normal ?_)
          clear k0 k1 hne1
          go_wp2_with fail
          go_ret
          exact ⟨ret_bool H.out, hB.trans (W6.mono hzW)⟩

set_option maxHeartbeats 1600000 in
theorem iNext_any (p : Pl) (i : Nat) (T S : Option Addr) (c d : Nat) (w : World) (hr : RdP w T S p) (hg : GoodP p) (hi : i < p.sg.length) (A : Option Addr) (c2 : Nat) (hA : ∃ b o, S = some ⟨b, o, none⟩ ∧ w.cell? ⟨b, o + nx p i * 2, none⟩ = some (.slice A (ph p (nx p i)).length c2)) :
    Calls Try.prog 78 #[plV p T c S d, .int .i64 (i : Int)] w fun e w' => e = .returned (.slice A (ph p (nx p i)).length c2) ∧ Below w.heap.size w w' := by
  have hs5 := hg.s2
  have hs1 := hg.s1
  obtain ⟨hB, hb0, hb1, hlt⟩ := boxP_at w p T c S d
  obtain ⟨b, o, rfl, e3⟩ := hA
  have hmod := nx_mod hg hi
  have hnl := nx_lt hg i
  have hwr : IntKind.i64.wrap ((i : Int) + 1) = (i : Int) + 1 := by simp [IntKind.wrap, IntKind.bits, IntKind.signed]; omega
  have hn0 : ¬ (p.sg.length : Int) = 0 := by omega
  have hi2 : (nx p i : Int) < (p.sg.length : Int) := by omega
  have e3' := (hB.cell (World.block_lt_of_cell? w _ e3)).trans e3
  generalize (ph p (nx p i)).length = m at *
  generalize nx p i = j at *
  clear hr hg e3
  go_enter Try.func78, Try.ntmps78
  go_wp2_with fail
  generalize w.alloc (.cells (plC p T c (some ⟨b, o, none⟩) d) 26) = W at *
  have k0 := Grow.cell hb0
  have k1 := Grow.cell hb1
  have k3 := Grow.cell e3'
  refine wp_region_grow W (by kernel_rfl) (by kernel_rfl) (Below.refl _ _) ?_
  repeat (go_big_quiet_step (fail))
  refine wpQuiet_nil ?_
  rintro _ ⟨z, rfl⟩
  clear hb0 hb1 e3' k0 k1 k3
  go_wp2_with fail
  go_ret
  exact ⟨rfl, hB.trans (z.h.mono hB.size)⟩
end Go.Proofs.Ytcckipckgnkieaa
