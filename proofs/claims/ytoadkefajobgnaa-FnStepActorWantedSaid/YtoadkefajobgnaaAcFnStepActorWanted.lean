/-
  The statement FnStepActorWanted.
-/
import Derived.Test.YtoadkefajobgnaaOpen
import Derived.Test.YtoadkefajobgnaaAcStepA
import Derived.Test.YtoadkefajobgnaaAcEx
import Derived.Test.YtoadkefajobgnaaAcDraw2
import Derived.Test.YtoadkefajobgnaaAcLaw
namespace Go.Proofs.Ytoadkefajobgnaa.FnStepActorWanted
open Go.RowKit Go.ChangeShapes Go.WideShapes Go.ChangeAt Go.Proofs.Ytoadkefajobgnaa
set_option linter.unusedVariables false

theorem stepG_len {a : Ctl} {cars : List Bool} : (stepG a cars).wa.length ≤ 5 := by
  unfold stepG
  split
  · rename_i h
    obtain ⟨hg, hl⟩ := okA_good h
    have h1 := step_wa hg hl
    have := hg.wa
    have := hg.st
    omega
  · simp [zeroA]

set_option maxHeartbeats 6400000 in
theorem walk (A : Option Addr) (len cap : Nat) (w : World) (h : Bytes w A len) (hc : len ≤ cap) :
    Calls Try.prog 11 #[.slice A len cap] w fun e w' => e = .returned (.bool true) ∧ Below w.heap.size w w' := by
  by_cases hl1 : 1048576 < len
  · go_enter Try.func11, Try.ntmps11
    go_wp2_with fail
    go_ret
    exact ⟨rfl, Below.refl _ _⟩
  go_enter Try.func11, Try.ntmps11
  go_wp2_with fail
  refine (drawSt_any _ A len cap h hc).mono ?_
  rintro e w1 ⟨a, A1, c1, C, d, cars, rfl, ⟨ha1, ha2, ha3⟩, hcl, hr, hcr, hB⟩
  clear h
  go_wp2_with fail
  have ba := Blk.new w1 27 (acC a A1 c1)
  replace hr := hr.alloc (.cells (acC a A1 c1) 27)
  replace hcr := hcr.alloc (.cells (acC a A1 c1) 27)
  replace hB := hB.alloc hB.size (.cells (acC a A1 c1) 27)
  generalize w1.alloc (.cells (acC a A1 c1) 27) = w2 at *
  generalize w1.heap.size = ga at *
  refine (iStepG_any a cars A1 C c1 d _ hr hcr).mono ?_
  rintro e w3 ⟨A5, c5, rfl, h5, v0⟩
  replace ba := ba.below v0 ba.lt
  replace hr := hr.below v0
  replace hcr := hcr.below v0
  replace hB := hB.trans (v0.mono hB.size)
  clear v0
  go_wp2_with fail
  have bb := Blk.new w3 27 (acC (stepG a cars) A5 c5)
  replace ba := ba.alloc (.cells (acC (stepG a cars) A5 c5) 27)
  replace hr := hr.alloc (.cells (acC (stepG a cars) A5 c5) 27)
  replace hcr := hcr.alloc (.cells (acC (stepG a cars) A5 c5) 27)
  replace h5 := h5.alloc (.cells (acC (stepG a cars) A5 c5) 27)
  replace hB := hB.alloc hB.size (.cells (acC (stepG a cars) A5 c5) 27)
  have hR := stepG_len (a := a) (cars := cars)
  generalize w3.alloc (.cells (acC (stepG a cars) A5 c5) 27) = w4 at *
  generalize w3.heap.size = gb_ at *
  obtain ⟨S, hS⟩ : ∃ S : World → Prop, S = fun x => Blk x ga 27 (acC a A1 c1) ∧ Blk x gb_ 27 (acC (stepG a cars) A5 c5) := ⟨_, rfl⟩
  have hS1 : ∀ x, S x → Blk x ga 27 (acC a A1 c1) := fun x h => by rw [hS] at h; exact h.1
  have hS2 : ∀ x, S x → Blk x gb_ 27 (acC (stepG a cars) A5 c5) := fun x h => by rw [hS] at h; exact h.2
  have hS3 : ∀ x, Blk x ga 27 (acC a A1 c1) → Blk x gb_ 27 (acC (stepG a cars) A5 c5) → S x := fun x h1 h2 => by rw [hS]; exact ⟨h1, h2⟩
  obtain ⟨k0, k1, k2, k3, k4, k5⟩ := held_cells hS1
  obtain ⟨j0, j1, j2, j3, j4, j5⟩ := held_cells hS2
  have HS3 := Lib.hid hS3
  clear hS hS1 hS2 hS3
  cases hv : validA a with
  | false =>
    have hk5 := h5
    refine wp_region_mix S [(0, 0), (0, 1), (0, 2), (1, 3), (1, 4), (0, 5), (0, 6), (0, 7), (1, 8), (0, 9), (0, 10), (0, 11), (0, 12), (0, 13), (0, 14), (0, 15), (0, 16), (0, 17)] [] (by kernel_rfl) (by kernel_rfl) (HS3.out _ ba.drew bb.drew) ?_
    intro hne0
    simp only [mixOps, List.filterMap_cons, List.filterMap_nil, List.getElem?_toArray, List.getElem?_cons_zero, List.getElem?_cons_succ, Option.map_some]
    replace ba := ba.drew
    replace bb := bb.drew
    replace hB := hB.drew
    replace hr := hr.drew
    replace hcr := hcr.drew
    replace h5 := h5.drew
    generalize w4.drew = w11 at *
    repeat (refine mix_early (fun K hK => ?_); go_simp; refine hK _ ?_; clear hK K)
    refine mix_late rfl (fun K hK => ?_)
    go_wp2_with fail
    refine (sStepG_any a cars A1 C c1 d _ hr hcr).mono ?_
    rintro e w12 ⟨A6, c6, rfl, h6, v0⟩
    replace ba := ba.below v0 ba.lt
    replace bb := bb.below v0 bb.lt
    replace hr := hr.below v0
    replace hcr := hcr.below v0
    replace h5 := h5.below v0
    replace hB := hB.trans (v0.mono hB.size)
    clear v0
    go_wp2_with fail
    refine ⟨HS3.out _ ba bb, ?_⟩
    refine mix_late rfl (fun K hK => ?_)
    go_wp2_with fail
    refine (equalActor_same (stepG a cars) A5 A6 c5 c6 _ h5.rd h6.rd (by omega)).mono ?_
    rintro e w13 ⟨rfl, v0⟩
    clear h6
    replace ba := ba.below v0 ba.lt
    replace bb := bb.below v0 bb.lt
    replace hr := hr.below v0
    replace hcr := hcr.below v0
    replace h5 := h5.below v0
    replace hB := hB.trans (v0.mono hB.size)
    clear v0
    go_wp2_with fail
    refine ⟨HS3.out _ ba bb, ?_⟩
    repeat (refine mix_early (fun K hK => ?_); go_simp; refine hK _ ?_; clear hK K)
    refine mix_lateG (by rfl) (fun K hK => ?_)
    go_wp2_with fail
    refine (iValidA_any a A1 c1 _).mono ?_
    rw [hv]
    rintro e w14 ⟨rfl, v0⟩
    replace ba := ba.below v0 ba.lt
    replace bb := bb.below v0 bb.lt
    replace hr := hr.below v0
    replace hcr := hcr.below v0
    replace h5 := h5.below v0
    replace hB := hB.trans (v0.mono hB.size)
    clear v0
    go_wp2_with fail
    refine ⟨HS3.out _ ba bb, ?_⟩
    repeat (refine mix_early (fun K hK => ?_); go_simp; refine hK _ ?_; clear hK K)
    refine mix_nil ?_
    simp only [tailT, List.filterMap_nil]
    refine wpLateC_nil (NoPanic.normal ?_)
    go_wp2_with fail
    refine wp_region_mix S [(0, 0), (0, 1), (0, 2), (1, 3), (1, 4), (0, 5)] [] (by kernel_rfl) (by kernel_rfl) (HS3.out _ ba.drew bb.drew) ?_
    intro hne0
    simp only [mixOps, List.filterMap_cons, List.filterMap_nil, List.getElem?_toArray, List.getElem?_cons_zero, List.getElem?_cons_succ, Option.map_some]
    replace ba := ba.drew
    replace bb := bb.drew
    replace hB := hB.drew
    replace hr := hr.drew
    replace hcr := hcr.drew
    replace h5 := h5.drew
    generalize w14.drew = w15 at *
    repeat (refine mix_early (fun K hK => ?_); go_simp; refine hK _ ?_; clear hK K)
    refine mix_late rfl (fun K hK => ?_)
    go_wp2_with fail
    refine (sStepG_any a cars A1 C c1 d _ hr hcr).mono ?_
    rintro e w16 ⟨A6, c6, rfl, h6, v0⟩
    replace ba := ba.below v0 ba.lt
    replace bb := bb.below v0 bb.lt
    replace hr := hr.below v0
    replace hcr := hcr.below v0
    replace h5 := h5.below v0
    replace hB := hB.trans (v0.mono hB.size)
    clear v0
    go_wp2_with fail
    refine ⟨HS3.out _ ba bb, ?_⟩
    refine mix_late rfl (fun K hK => ?_)
    go_wp2_with fail
    refine (equalActor_same (stepG a cars) A5 A6 c5 c6 _ h5.rd h6.rd (by omega)).mono ?_
    rintro e w17 ⟨rfl, v0⟩
    clear h6
    replace ba := ba.below v0 ba.lt
    replace bb := bb.below v0 bb.lt
    replace hr := hr.below v0
    replace hcr := hcr.below v0
    replace h5 := h5.below v0
    replace hB := hB.trans (v0.mono hB.size)
    clear v0
    go_wp2_with fail
    refine ⟨HS3.out _ ba bb, ?_⟩
    repeat (refine mix_early (fun K hK => ?_); go_simp; refine hK _ ?_; clear hK K)
    refine mix_nil ?_
    simp only [tailT, List.filterMap_nil]
    refine wpLateC_nil (NoPanic.normal ?_)
    go_wp2_with fail
    go_ret
    exact ⟨rfl, hB⟩
  | true =>
    have hg := validA_iff.mp hv
    have Hg := Lib.hid hg
    by_cases hlen : (cars.length : Int) = a.st
    case neg =>
      have hn1 : (((cars.length : Nat) : Int) == a.st) = false := by simpa using hlen
      have hn2 : (((cars.length : Nat) : Int) != a.st) = true := by simpa using hlen
      clear hlen hg
      have hk5 := h5
      refine wp_region_mix S [(0, 0), (0, 1), (0, 2), (1, 3), (1, 4), (0, 5), (0, 6), (0, 7), (1, 8), (0, 9), (0, 10), (0, 11), (0, 12), (0, 13), (0, 14), (0, 15), (0, 16), (0, 17)] [] (by kernel_rfl) (by kernel_rfl) (HS3.out _ ba.drew bb.drew) ?_
      intro hne0
      simp only [mixOps, List.filterMap_cons, List.filterMap_nil, List.getElem?_toArray, List.getElem?_cons_zero, List.getElem?_cons_succ, Option.map_some]
      replace ba := ba.drew
      replace bb := bb.drew
      replace hB := hB.drew
      replace hr := hr.drew
      replace hcr := hcr.drew
      replace h5 := h5.drew
      generalize w4.drew = w11 at *
      repeat (refine mix_early (fun K hK => ?_); go_simp; refine hK _ ?_; clear hK K)
      refine mix_late rfl (fun K hK => ?_)
      go_wp2_with fail
      refine (sStepG_any a cars A1 C c1 d _ hr hcr).mono ?_
      rintro e w12 ⟨A6, c6, rfl, h6, v0⟩
      replace ba := ba.below v0 ba.lt
      replace bb := bb.below v0 bb.lt
      replace hr := hr.below v0
      replace hcr := hcr.below v0
      replace h5 := h5.below v0
      replace hB := hB.trans (v0.mono hB.size)
      clear v0
      go_wp2_with fail
      refine ⟨HS3.out _ ba bb, ?_⟩
      refine mix_late rfl (fun K hK => ?_)
      go_wp2_with fail
      refine (equalActor_same (stepG a cars) A5 A6 c5 c6 _ h5.rd h6.rd (by omega)).mono ?_
      rintro e w13 ⟨rfl, v0⟩
      clear h6
      replace ba := ba.below v0 ba.lt
      replace bb := bb.below v0 bb.lt
      replace hr := hr.below v0
      replace hcr := hcr.below v0
      replace h5 := h5.below v0
      replace hB := hB.trans (v0.mono hB.size)
      clear v0
      go_wp2_with fail
      refine ⟨HS3.out _ ba bb, ?_⟩
      repeat (refine mix_early (fun K hK => ?_); go_simp; refine hK _ ?_; clear hK K)
      refine mix_lateG (by rfl) (fun K hK => ?_)
      go_wp2_with fail
      refine (iValidA_any a A1 c1 _).mono ?_
      rw [hv]
      rintro e w14 ⟨rfl, v0⟩
      replace ba := ba.below v0 ba.lt
      replace bb := bb.below v0 bb.lt
      replace hr := hr.below v0
      replace hcr := hcr.below v0
      replace h5 := h5.below v0
      replace hB := hB.trans (v0.mono hB.size)
      clear v0
      go_wp2_with fail
      refine ⟨HS3.out _ ba bb, ?_⟩
      repeat (refine mix_early (fun K hK => ?_); go_simp; refine hK _ ?_; clear hK K)
      refine mix_nil ?_
      simp only [tailT, List.filterMap_nil]
      refine wpLateC_nil (NoPanic.normal ?_)
      go_wp2_with fail
      refine wp_region_mix S [(0, 0), (0, 1), (0, 2), (1, 3), (1, 4), (0, 5)] [] (by kernel_rfl) (by kernel_rfl) (HS3.out _ ba.drew bb.drew) ?_
      intro hne0
      simp only [mixOps, List.filterMap_cons, List.filterMap_nil, List.getElem?_toArray, List.getElem?_cons_zero, List.getElem?_cons_succ, Option.map_some]
      replace ba := ba.drew
      replace bb := bb.drew
      replace hB := hB.drew
      replace hr := hr.drew
      replace hcr := hcr.drew
      replace h5 := h5.drew
      generalize w14.drew = w15 at *
      repeat (refine mix_early (fun K hK => ?_); go_simp; refine hK _ ?_; clear hK K)
      refine mix_late rfl (fun K hK => ?_)
      go_wp2_with fail
      refine (sStepG_any a cars A1 C c1 d _ hr hcr).mono ?_
      rintro e w16 ⟨A6, c6, rfl, h6, v0⟩
      replace ba := ba.below v0 ba.lt
      replace bb := bb.below v0 bb.lt
      replace hr := hr.below v0
      replace hcr := hcr.below v0
      replace h5 := h5.below v0
      replace hB := hB.trans (v0.mono hB.size)
      clear v0
      go_wp2_with fail
      refine ⟨HS3.out _ ba bb, ?_⟩
      refine mix_late rfl (fun K hK => ?_)
      go_wp2_with fail
      refine (equalActor_same (stepG a cars) A5 A6 c5 c6 _ h5.rd h6.rd (by omega)).mono ?_
      rintro e w17 ⟨rfl, v0⟩
      clear h6
      replace ba := ba.below v0 ba.lt
      replace bb := bb.below v0 bb.lt
      replace hr := hr.below v0
      replace hcr := hcr.below v0
      replace h5 := h5.below v0
      replace hB := hB.trans (v0.mono hB.size)
      clear v0
      go_wp2_with fail
      refine ⟨HS3.out _ ba bb, ?_⟩
      repeat (refine mix_early (fun K hK => ?_); go_simp; refine hK _ ?_; clear hK K)
      refine mix_nil ?_
      simp only [tailT, List.filterMap_nil]
      refine wpLateC_nil (NoPanic.normal ?_)
      go_wp2_with fail
      go_ret
      exact ⟨rfl, hB⟩
    have hn1 : (((cars.length : Nat) : Int) == a.st) = true := by simpa using hlen
    have hn2 : (((cars.length : Nat) : Int) != a.st) = false := by simpa using hlen
    have hwl : a.wa.length = cars.length := by have := hg.wa; omega
    have HX : Hid (stepG a cars = stepF a cars) := Lib.hid (by rw [stepG, if_pos (okA_of hg hwl)])
    have Hwl := Lib.hid hwl
    have hlaw := Lib.hid (fun (i : Nat) (hw : (gb a.wa i || gb cars i) = true) (hb : gb (stepF a cars).wa i = false) => wanted_law hg hwl hw hb)
    have hbl := step_wa hg hwl
    rw [← HX.out] at hbl
    have hstb := hg.st
    have hst := hg.wa
    have hwle : a.wa.length ≤ cars.length := by omega
    have hwl5 : a.wa.length ≤ 5 := by omega
    have hbl2 : a.wa.length ≤ (stepG a cars).wa.length := by omega
    have Hlen := Lib.hid hlen
    clear hlen hg hwl hst hbl
    have hk5 := h5
    refine wp_region_mix S [(0, 0), (0, 1), (0, 2), (1, 3), (1, 4), (0, 5), (0, 6), (0, 7), (1, 8), (0, 9), (0, 10), (0, 11), (0, 12), (0, 13), (0, 14), (0, 15), (0, 16), (0, 17)] [] (by kernel_rfl) (by kernel_rfl) (HS3.out _ ba.drew bb.drew) ?_
    intro hne0
    simp only [mixOps, List.filterMap_cons, List.filterMap_nil, List.getElem?_toArray, List.getElem?_cons_zero, List.getElem?_cons_succ, Option.map_some]
    replace ba := ba.drew
    replace bb := bb.drew
    replace hB := hB.drew
    replace hr := hr.drew
    replace hcr := hcr.drew
    replace h5 := h5.drew
    generalize w4.drew = w11 at *
    repeat (refine mix_early (fun K hK => ?_); go_simp; refine hK _ ?_; clear hK K)
    refine mix_late rfl (fun K hK => ?_)
    go_wp2_with fail
    refine (sStepG_any a cars A1 C c1 d _ hr hcr).mono ?_
    rintro e w12 ⟨A6, c6, rfl, h6, v0⟩
    replace ba := ba.below v0 ba.lt
    replace bb := bb.below v0 bb.lt
    replace hr := hr.below v0
    replace hcr := hcr.below v0
    replace h5 := h5.below v0
    replace hB := hB.trans (v0.mono hB.size)
    clear v0
    go_wp2_with fail
    refine ⟨HS3.out _ ba bb, ?_⟩
    refine mix_late rfl (fun K hK => ?_)
    go_wp2_with fail
    refine (equalActor_same (stepG a cars) A5 A6 c5 c6 _ h5.rd h6.rd (by omega)).mono ?_
    rintro e w13 ⟨rfl, v0⟩
    clear h6
    replace ba := ba.below v0 ba.lt
    replace bb := bb.below v0 bb.lt
    replace hr := hr.below v0
    replace hcr := hcr.below v0
    replace h5 := h5.below v0
    replace hB := hB.trans (v0.mono hB.size)
    clear v0
    go_wp2_with fail
    refine ⟨HS3.out _ ba bb, ?_⟩
    repeat (refine mix_early (fun K hK => ?_); go_simp; refine hK _ ?_; clear hK K)
    refine mix_lateG (by rfl) (fun K hK => ?_)
    go_wp2_with fail
    refine (iValidA_any a A1 c1 _).mono ?_
    rw [hv]
    rintro e w14 ⟨rfl, v0⟩
    replace ba := ba.below v0 ba.lt
    replace bb := bb.below v0 bb.lt
    replace hr := hr.below v0
    replace hcr := hcr.below v0
    replace h5 := h5.below v0
    replace hB := hB.trans (v0.mono hB.size)
    clear v0
    go_wp2_with fail
    refine ⟨HS3.out _ ba bb, ?_⟩
    repeat (refine mix_early (fun K hK => ?_); go_simp; refine hK _ ?_; clear hK K)
    refine mix_nil ?_
    simp only [tailT, List.filterMap_nil]
    refine wpLateC_nil (NoPanic.normal ?_)
    go_wp2_with fail
    have hst : (a.wa.length : Int) = a.st := Hg.out.wa
    have Hst := Lib.hid hst
    clear hst hk5 hn1 hn2
    go_loopw [6] (fun i wr => ∃ k : Nat, k ≤ a.wa.length ∧ i = .int .i64 k ∧ wr = w14) (fun i _ => a.wa.length - (intOf i).toNat)
    case atStart => exact ⟨0, Nat.zero_le _, rfl, rfl⟩
    case round =>
      obtain ⟨k, hk, rfl, rfl⟩ := hrel
      obtain ⟨a0, a1, a2, a3, a4, a5⟩ := loadT ba
      obtain ⟨d0, d1, d2, d3, d4, d5⟩ := loadT bb
      rw [← Hst.out] at a0
      by_cases hlt : k < a.wa.length
      · have hltc : k < cars.length := by omega
        have hltb : k < (stepG a cars).wa.length := by omega
        obtain ⟨b1_, o1, rfl, hw1⟩ := hr.at hlt
        obtain ⟨b2_, o2, rfl, hw2⟩ := hcr.at hltc
        obtain ⟨b3_, o3, rfl, hw3⟩ := h5.rd.at hltb
        rw [gb_at hlt] at hw1
        rw [gb_at hltc] at hw2
        rw [gb_at hltb] at hw3
        simp only [fB] at hw1 hw2 hw3
        have hl := hlaw.out k
        rw [← HX.out] at hl
        have Hl := Lib.hid hl
        clear hr hcr ba bb hl hlaw h5
        generalize gb a.wa k = x1 at *
        generalize gb cars k = x2 at *
        generalize gb (stepG a cars).wa k = x3 at *
        cases x3
        case true =>
          cases x1 <;> cases x2
          all_goals
            go_wp2_with fail
            go_roundw
            case rel => exact ⟨k + 1, by omega, by go_num, trivial⟩
            case measure => simp [intOf]; omega
        case false =>
          cases x1 <;> cases x2
          all_goals first
            | (have hb := Hl.out rfl rfl
               obtain ⟨r1, r2⟩ := hb
               have t1 : ((k : Int) != a.now) = false := by simpa using r1
               have t2 : decide (0 < a.le) = false := by simpa using r2
               clear r1 r2
               go_wp2_with fail
               go_roundw
               case rel => exact ⟨k + 1, by omega, by go_num, trivial⟩
               case measure => simp [intOf]; omega)
            | (go_wp2_with fail
               go_roundw
               case rel => exact ⟨k + 1, by omega, by go_num, trivial⟩
               case measure => simp [intOf]; omega)
      · obtain rfl : k = a.wa.length := by omega
        clear hr hcr ba bb h5
        go_wp2_with fail
        go_ret
        exact ⟨rfl, hB⟩

set_option maxRecDepth 100000 in
theorem lifted (os : Os) (started : os.Started) (H : Type) (enc : TypeId × Value → H) :
    ReturnsInHanded {} Try.checked os 11 .any (Rows.fnStepActorWantedSpec.pre6 enc Try.prog Try.f11 Rows.fnStepActorWantedRow.domain false) (Rows.fnStepActorWantedSpec.post enc Try.prog Try.f11 false true false false) := by
  refine returnsInHanded_of_change (C := Try.checked) own started (by kernel_rfl) Try.func11
    (ChangeSpec.witness6 (enc := enc) (C := Try.checked) false ⟨#[], #[.slice none 0 0], []⟩ 8 (by kernel_rfl) (by kernel_rfl) (by kernel_rfl) (by kernel_rfl)) ?_
  intro W base args ds gs before hval0 hW hcnd _
  have hval : ∀ (j : Nat) t v, Try.f11.params[j]? = some t → args[j]? = some v → Value.okWide Try.prog W .any base t v := hval0
  have hW' := hW
  obtain ⟨p, q, hA0, hV, rfl, hfz, hnd⟩ := hW
  have hA : DataW.TrodAll enc Try.prog W 0 (fun _ => true) true Try.f11.params.toList args.toList ds p := hA0
  rw [Try.params11] at hA hval
  obtain ⟨v0, vs0, d0, ds0, p0, q0, hargs, rfl, rfl, h0, r0⟩ := trodAll_cons hA
  obtain ⟨rfl, rfl, rfl⟩ := trodAll_nil r0
  obtain rfl : args = #[v0] := by cases args; simp_all
  obtain ⟨rfl, rfl⟩ := trodVars_none hV
  have k0 := h0
  have lt0 : ∀ x ∈ p0, x.block < W.heap.size := by obtain ⟨m, hm⟩ := k0; exact DataW.trod_lt m _ _ _ hm
  obtain ⟨a0, len0, cap0, rfl⟩ := okWide_slice Try.underlying32 (hval 0 32 v0 rfl rfl)
  obtain ⟨w0, hc0⟩ := open_bytes Try.underlying32 Try.underlying5 (by kernel_rfl) h0
  clear hA0 hval0
  refine (walk a0 len0 cap0 W w0 hc0).mono fun e W' ⟨he, bel⟩ => ?_
  subst he
  exact ⟨_, rfl, _, _, _, [], _, [], hW', trodAll_mk1 (shut_bool Try.underlying4 _), (trodAll_cons_mk (Below.trod laidOut (by kernel_rfl) (of_decide_eq_true (by kernel_rfl)) k0 bel lt0) trodAll_mk0), rfl, bel.frame _, fun h => by cases h⟩

theorem over : Rows.fnStepActorWantedRow.holds Try.pinned (OpenSpec.ofChange Rows.fnStepActorWantedSpec) :=
  OpenClaim.holds_of_wide 11 Try.f11 rfl rfl rfl rfl rfl rfl rfl ⟨rfl, rfl, rfl, rfl, rfl⟩ rfl rfl rfl rfl rfl (by kernel_rfl) Try.func11 (by kernel_rfl)
    (of_decide_eq_true (by kernel_rfl)) (by unfold Func.isWrapper; first | (rw [if_pos (by decide +kernel)]; kernel_rfl) | (rw [if_neg (by decide +kernel)]; exact ⟨rfl, rfl⟩))
    (fun os started H enc _ => lifted os started H enc)

theorem proved : Rows.FnStepActorWantedSaid := over
end Go.Proofs.Ytoadkefajobgnaa.FnStepActorWanted
