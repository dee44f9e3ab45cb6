/-
  Valid plans, as the reference finds them.
-/
import Derived.Test.YtcckipckgnkieaaPlPlan
namespace Go.Proofs.Ytcckipckgnkieaa
open Go.RowKit
set_option linter.unusedVariables false

def Fits (t : List (List Int)) (m : List Int) : Prop := GoodC t ∧ GoodM t.length m ∧ Clear t m
noncomputable def fitB (t : List (List Int)) (m : List Int) : Bool := dec (Fits t m)
set_option maxHeartbeats 1600000 in
theorem sFits_v (t : List (List Int)) (m : List Int) (v : Bool) (hv : fitB t m = v) (T A : Option Addr) (c d : Nat) (w : World) (hr : RdSS fI w T t) (hm : RdL fI w A m) (hn : t.length ≤ 1000000000) (hl : ∀ k, k < t.length → (gm t k).length ≤ 1000000000) (hml : m.length ≤ 1000000000) :
    Calls Try.prog 72 #[.slice T t.length c, .slice A m.length d] w fun e w' => e = .returned (.bool v) ∧ Below w.heap.size w w' := by
  have Hv := Lib.hid hv
  clear hv
  go_enter Try.func72, Try.ntmps72
  cases h1 : validC t with
  | false =>
    have H := Lib.hid (show false = v from Hv.out ▸ (dec_not.mpr fun h => (dec_not.mp h1) h.1).symm)
    go_wp2_with fail
    refine (sValC_v t false h1 T c _ hr hn hl).mono ?_
    rintro e w1 ⟨rfl, v1⟩
    clear h1
    go_wp2_with fail
    go_ret
    exact ⟨ret_bool H.out, v1⟩
  | true =>
    have Hc := Lib.hid (dec_iff.mp h1)
    have hn8 := Hc.out.n2
    go_wp2_with fail
    refine (sValC_v t true h1 T c _ hr hn hl).mono ?_
    rintro e w1 ⟨rfl, v1⟩
    have hz1 := v1.size
    clear h1
    cases h2 : validM t.length m with
    | false =>
      have H := Lib.hid (show false = v from Hv.out ▸ (dec_not.mpr fun h => (dec_not.mp h2) h.2.1).symm)
      go_wp2_with fail
      refine (sAsc_v m t.length false h2 A d _ (hm.below v1) hml hn).mono ?_
      rintro e w2 ⟨rfl, v2⟩
      clear h2
      go_wp2_with fail
      go_ret
      exact ⟨ret_bool H.out, v1.trans (v2.mono hz1)⟩
    | true =>
      have Hm := Lib.hid (dec_iff.mp h2)
      have Hcf := Lib.hid (conF_yes (dec_iff.mpr Hc.out : validC t = true))
      go_wp2_with fail
      refine (sAsc_v m t.length true h2 A d _ (hm.below v1) hml hn).mono ?_
      rintro e w2 ⟨rfl, v2⟩
      have hB2 := v1.trans (v2.mono hz1)
      have hz2 := hB2.size
      clear h2 v1 v2 hz1
      go_wp2_with fail
      refine (sConf_any t T c _ (hr.below hB2) hn hl).mono ?_
      rintro e w3 ⟨D, d2, rfl, hD, v3⟩
      have hB3 := hB2.trans (v3.mono hz2)
      rw [Hcf.out] at hD
      have Hcl : Hid ((conF t).length = t.length) := Lib.hid (by rw [Hcf.out, cfL_length])
      rw [Hcl.out]
      have H := Lib.hid (show clearB t m = v by
        rw [← Hv.out]
        exact dec_eq ⟨fun h => ⟨Hc.out, Hm.out, h⟩, fun h => h.2.2⟩)
      have hz3 := hB3.size
      clear v3 hB2 hz2
      go_wp2_with fail
      refine (sClear_any t m D A d d2 _ hD (hm.below hB3) Hc.out Hm.out).mono ?_
      rintro e w4 ⟨rfl, v4⟩
      have hB4 := hB3.trans (v4.mono hz3)
      clear v4 hB3 hD
      go_wp2_with fail
      go_ret
      exact ⟨ret_bool H.out, hB4⟩

/-- A plan whose lists are not too long. -/
structure SmP (p : Pl) (m : Nat) : Prop where
  t : p.tb.length ≤ m
  r : ∀ k, k < p.tb.length → (gm p.tb k).length ≤ m
  s : p.sg.length ≤ m
  f : ∀ k, k < p.sg.length → (ph p k).length ≤ m
theorem goodP_fit {p : Pl} (h : GoodP p) {i : Nat} (hi : i < p.sg.length) : Fits p.tb (ph p i) := ⟨h.c, h.m i hi, h.cl i hi⟩
theorem goodP_of {p : Pl} (hc : GoodC p.tb) (s1 : 1 ≤ p.sg.length) (s2 : p.sg.length ≤ 5) (hf : ∀ i, i < p.sg.length → Fits p.tb (ph p i)) (hg : ∀ i, i < p.sg.length → 5 ≤ gr p i ∧ gr p i ≤ 40) : GoodP p :=
  ⟨hc, s1, s2, fun i hi => (hf i hi).2.1, fun i hi => (hf i hi).2.2, hg⟩

set_option maxHeartbeats 1600000 in
theorem sValP_v (p : Pl) (v : Bool) (hv : validP p = v) (T S : Option Addr) (c d : Nat) (w : World) (hr : RdP w T S p) (hs : SmP p 1000000000) :
    Calls Try.prog 38 #[plV p T c S d] w fun e w' => e = .returned (.bool v) ∧ Below w.heap.size w w' := by
  obtain ⟨hB, hb0, hb1, hlt⟩ := boxP_at w p T c S d
  have Hv := Lib.hid hv
  have Hs := Lib.hid hs
  have Hr := Lib.hid hr
  have hzW := hB.size
  have hsl := hs.s
  clear hv hs hr
  go_enter Try.func38, Try.ntmps38
  go_wp2_with fail
  generalize w.alloc (.cells (plC p T c S d) 26) = W at *
  cases h1 : validC p.tb with
  | false =>
    have H := Lib.hid (show false = v from Hv.out ▸ (dec_not.mpr fun h => (dec_not.mp h1) h.c).symm)
    refine (sValC_v p.tb false h1 T c _ (Hr.out.t.below hB) Hs.out.t Hs.out.r).mono ?_
    rintro e w1 ⟨rfl, v1⟩
    clear h1
    go_wp2_with fail
    go_ret
    exact ⟨ret_bool H.out, hB.trans (v1.mono hzW)⟩
  | true =>
    have Hc := Lib.hid (dec_iff.mp h1)
    have hn8 := Hc.out.n2
    refine (sValC_v p.tb true h1 T c _ (Hr.out.t.below hB) Hs.out.t Hs.out.r).mono ?_
    rintro e w1 ⟨rfl, v1⟩
    have c0 := (v1.cell (World.block_lt_of_cell? W _ hb0)).trans hb0
    have c1' := (v1.cell (World.block_lt_of_cell? W _ hb1)).trans hb1
    clear h1
    cases h2 : inB (p.sg.length : Int) 1 5 with
    | false =>
      have H := Lib.hid (show false = v from Hv.out ▸ (dec_not.mpr fun h => by
        have h3 := h.s1
        have h4 := h.s2
        have : inB (p.sg.length : Int) 1 5 = true := inB_iff.mpr (by omega)
        rw [h2] at this
        cases this).symm)
      have hin := inRange_any (p.sg.length : Int) 1 5 w1
      rw [h2] at hin
      clear h2
      go_wp2_with fail
      refine hin.mono ?_
      rintro e w2 ⟨rfl, rfl⟩
      go_wp2_with fail
      go_ret
      exact ⟨ret_bool H.out, hB.trans (v1.mono hzW)⟩
    | true =>
      have h5 : 1 ≤ p.sg.length ∧ p.sg.length ≤ 5 := by have := inB_iff.mp h2; omega
      have hin := inRange_any (p.sg.length : Int) 1 5 w1
      rw [h2] at hin
      clear h2
      go_wp2_with fail
      refine hin.mono ?_
      rintro e w2 ⟨rfl, rfl⟩
      clear hin c0 c1'
      go_wp2_with fail
      go_loopw [3] (fun vi wr => ∃ i : Nat, i ≤ p.sg.length ∧ vi = .int .i64 i ∧ (∀ j, j < i → Fits p.tb (ph p j) ∧ 5 ≤ gr p j ∧ gr p j ≤ 40) ∧ Below W.heap.size W wr) (fun vi _ => p.sg.length - (intOf vi).toNat)
      case atStart => exact ⟨0, Nat.zero_le _, rfl, fun j hj => by omega, v1⟩
      case round =>
        clear v1
        obtain ⟨i, hi, rfl, hp, hW⟩ := hrel
        have Hp := Lib.hid hp
        clear hp
        have c0 := (hW.cell (World.block_lt_of_cell? W _ hb0)).trans hb0
        have c1' := (hW.cell (World.block_lt_of_cell? W _ hb1)).trans hb1
        by_cases hlti : i < p.sg.length
        · obtain ⟨b, o, A, c2, rfl, e1, e2, e3, -⟩ := Hr.out.s i hlti
          have e1' := (hB.cell (World.block_lt_of_cell? w _ e1)).trans e1
          have e2' := (hB.cell (World.block_lt_of_cell? w _ e2)).trans e2
          have k0 := Grow.cell hb0
          have k1 := Grow.cell hb1
          have k2 := Grow.cell e1'
          have k3 := Grow.cell e2'
          have hi1 : (i : Int) < (p.sg.length : Int) := by omega
          have hft : ∀ u, fitB p.tb (ph p i) = u → ∀ y : Grow W, Calls Try.prog 72 #[.slice T p.tb.length c, .slice A (ph p i).length c2] y.x fun e w' => e = .returned (.bool u) ∧ Below y.x.heap.size y.x w' := fun u hu y =>
            sFits_v p.tb (ph p i) u hu T A c c2 y.x (Hr.out.t.below (hB.trans (y.h.mono hzW))) (e3.below (hB.trans (y.h.mono hzW))) Hs.out.t Hs.out.r (Hs.out.f i hlti)
          clear e1 e2 e1' e2' e3
          cases hfb : fitB p.tb (ph p i) with
          | false =>
            have H := Lib.hid (show false = v from Hv.out ▸ (dec_not.mpr fun h => (dec_not.mp hfb) (goodP_fit h hlti)).symm)
            have hft' := hft false hfb
            clear hft hfb Hp
            go_wp2_with fail
            refine wp_region_grow W (by kernel_rfl) (by kernel_rfl) hW ?_
            repeat (go_big_quiet_step ((go_at_call 72; exact grow_of (hft' _))))
            refine wpQuiet_nil ?_
            rintro _ ⟨z, rfl⟩
            clear c0 c1'
            go_wp2_with fail
            go_ret
            exact ⟨ret_bool H.out, hB.trans (z.h.mono hzW)⟩
          | true =>
            have hft' := hft true hfb
            have Hf := Lib.hid (dec_iff.mp hfb)
            have hin : ∀ u, inB (gr p i) 5 40 = u → ∀ y : World, Calls Try.prog 39 #[.int .i64 (gr p i), .int .i64 5, .int .i64 40] y fun e w' => e = .returned (.bool u) ∧ y = w' := fun u hu y => hu ▸ inRange_any (gr p i) 5 40 y
            cases hgb : inB (gr p i) 5 40 with
            | false =>
              have H := Lib.hid (show false = v from Hv.out ▸ (dec_not.mpr fun h => by
                have : inB (gr p i) 5 40 = true := inB_iff.mpr (h.g i hlti)
                rw [hgb] at this
                cases this).symm)
              have hin' := hin false hgb
              clear hft hfb Hp hin hgb
              go_wp2_with fail
              refine wp_region_grow W (by kernel_rfl) (by kernel_rfl) hW ?_
              repeat (go_big_quiet_step ((first | (go_at_call 72; exact grow_of (hft' _)) | (go_at_call 39; exact grow_of_same (hin' _)))))
              refine wpQuiet_nil ?_
              rintro _ ⟨z, rfl⟩
              clear c0 c1'
              go_wp2_with fail
              go_ret
              exact ⟨ret_bool H.out, hB.trans (z.h.mono hzW)⟩
            | true =>
              have H := Lib.hid (show ∀ j, j < i + 1 → Fits p.tb (ph p j) ∧ 5 ≤ gr p j ∧ gr p j ≤ 40 from fun j hj => by
                by_cases e : j = i
                · subst e; exact ⟨Hf.out, inB_iff.mp hgb⟩
                · exact Hp.out j (by omega))
              have hin' := hin true hgb
              clear hft hfb Hp hin hgb
              go_wp2_with fail
              refine wp_region_grow W (by kernel_rfl) (by kernel_rfl) hW ?_
              repeat (go_big_quiet_step ((first | (go_at_call 72; exact grow_of (hft' _)) | (go_at_call 39; exact grow_of_same (hin' _)))))
              refine wpQuiet_nil ?_
              rintro _ ⟨z, rfl⟩
              clear c0 c1'
              go_wp2_with fail
              go_roundw
              case rel => first | exact ⟨i + 1, by omega, by go_num, H.out, z.h⟩ | ((repeat apply Exists.intro); exact ⟨⟨i + 1, by omega, by go_num, H.out, z.h⟩, rfl⟩)
              case measure => simp [intOf]; omega
        · obtain rfl : i = p.sg.length := by omega
          have H := Lib.hid (show true = v from Hv.out ▸ (dec_iff.mpr (goodP_of Hc.out h5.1 h5.2 (fun i hi => (Hp.out i hi).1) fun i hi => (Hp.out i hi).2)).symm)
          clear Hp hlti
          go_wp2_with fail
          go_ret
          exact ⟨ret_bool H.out, hB.trans (hW.mono hzW)⟩
end Go.Proofs.Ytcckipckgnkieaa
