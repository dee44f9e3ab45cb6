/-
  The statement FnRunActorPrefix.
-/
import Derived.Test.YtkppjngpllmpfaaOpen
import Derived.Test.YtkppjngpllmpfaaRunFn
namespace Go.Proofs.Ytkppjngpllmpfaa.FnRunActorPrefix
open Go.RowKit Go.ChangeShapes Go.WideShapes Go.ChangeAt Go.Proofs.Ytkppjngpllmpfaa
set_option linter.unusedVariables false

set_option maxHeartbeats 6400000 in
theorem walk (A : Option Addr) (len cap : Nat) (w : World) (h : Bytes w A len) (hc : len ≤ cap) :
    Calls Try.prog 4 #[.slice A len cap] w fun e w' => e = .returned (.bool true) ∧ Below w.heap.size w w' := by
  by_cases hl1 : 1048576 < len
  · go_enter Try.func4, Try.ntmps4
    go_wp2_with fail
    go_ret
    exact ⟨rfl, Below.refl _ _⟩
  go_enter Try.func4, Try.ntmps4
  go_wp2_with fail
  refine (drawRn_any _ A len cap h hc).mono ?_
  rintro e w1 ⟨a, A1, c1, C, d, cs, rfl, ⟨ha1, ha2, ha3⟩, hcl, hcd, hfit, hr, hcr, hB⟩
  have Hfit := Lib.hid hfit
  clear h hfit
  have hw5 : a.wa.length ≤ 6 := ha3
  have hQ : (runF a cs).length ≤ 150 := runF_length
  obtain ⟨qs, hqs⟩ : ∃ qs, qs = runF a cs := ⟨_, rfl⟩
  have hI := fun w hr hc => iRun_any a cs A1 C c1 d w hr hc (by omega)
  have hW := fun w hr hc => sRun_any a cs A1 C c1 d w hr hc (by omega)
  rw [← hqs] at hI hW hQ
  have Hqs := Lib.hid hqs
  clear hqs
  go_wp2_with fail
  have ba := Blk.new w1 25 (acC a A1 c1)
  replace hr := hr.alloc (.cells (acC a A1 c1) 25)
  replace hcr := hcr.alloc (.cells (acC a A1 c1) 25)
  replace hB := hB.alloc hB.size (.cells (acC a A1 c1) 25)
  generalize w1.alloc (.cells (acC a A1 c1) 25) = w2 at *
  generalize w1.heap.size = ga at *
  refine (hI _ hr hcr).mono ?_
  rintro e w3 ⟨A2, c2, rfl, h2, v0⟩
  replace hr := hr.below v0
  replace hcr := hcr.below v0
  replace ba := ba.below v0 ba.lt
  replace hB := hB.trans (v0.mono hB.size)
  have h2c := h2.capLe
  replace h2 := h2.rd
  clear v0
  obtain ⟨f0, f1, f2, f3, f4, f5⟩ := loadT ba
  by_cases hq : qs = []
  · rw [hq] at h2 hW ⊢
    clear hq hQ hI h2c
    simp only [List.length_nil] at h2 hW ⊢
    go_wp2_with fail
    refine (hW _ hr hcr).mono ?_
    rintro e w4 ⟨A3, c3, rfl, h3, v0⟩
    replace hr := hr.below v0
    replace hcr := hcr.below v0
    replace h2 := h2.below v0
    replace ba := ba.below v0 ba.lt
    replace hB := hB.trans (v0.mono hB.size)
    replace h3 := h3.rd
    clear v0 f0 f1 f2 f3 f4 f5
    go_wp2_with fail
    refine (equalInts_same [] A2 A3 c2 c3 _ h2 h3 (by decide)).mono ?_
    rintro e w5 ⟨rfl, v0⟩
    replace hr := hr.below v0
    replace hcr := hcr.below v0
    replace h2 := h2.below v0
    replace ba := ba.below v0 ba.lt
    replace hB := hB.trans (v0.mono hB.size)
    clear v0 h3
    obtain ⟨f0, f1, f2, f3, f4, f5⟩ := loadT ba
    go_wp2_with fail
    refine (hW _ hr hcr).mono ?_
    rintro e w6 ⟨A5, c5, rfl, h5, v0⟩
    replace h2 := h2.below v0
    replace hB := hB.trans (v0.mono hB.size)
    replace h5 := h5.rd
    clear v0 f0 f1 f2 f3 f4 f5
    go_wp2_with fail
    refine (equalInts_same [] A2 A5 c2 c5 _ h2 h5 (by decide)).mono ?_
    rintro e w7 ⟨rfl, v0⟩
    replace hB := hB.trans (v0.mono hB.size)
    clear v0
    go_wp2_with fail
    go_ret
    exact ⟨rfl, hB⟩
  replace hq : ¬ qs.length = 0 := fun h => hq (List.eq_nil_of_length_eq_zero h)
  have hv : validR a cs = true := by
    cases hv : validR a cs with
    | true => rfl
    | false => exact absurd (by rw [Hqs.out]; simp [runF, hv]) hq
  have hL : qs.length = cs.length := by rw [Hqs.out, runF, if_pos hv, runL_length]
  have hq1 : (((qs.length : Nat) : Int) == 0) = false := by simpa using fun h => hq (by simp [h])
  have hq0 : ((qs.length : Nat) : Int) ≠ 0 := by omega
  have hc0 : 0 < cs.length := by omega
  have HL := Lib.hid hL
  have Hv := Lib.hid hv
  clear hL hv hI
  go_wp2_with fail
  refine (hW _ hr hcr).mono ?_
  rintro e w4 ⟨A3, c3, rfl, h3, v0⟩
  replace hr := hr.below v0
  replace hcr := hcr.below v0
  replace h2 := h2.below v0
  replace ba := ba.below v0 ba.lt
  replace hB := hB.trans (v0.mono hB.size)
  replace h3 := h3.rd
  clear v0 f0 f1 f2 f3 f4 f5 hW
  go_wp2_with fail
  refine (equalInts_same qs A2 A3 c2 c3 _ h2 h3 (by omega)).mono ?_
  rintro e w5 ⟨rfl, v0⟩
  replace hr := hr.below v0
  replace hcr := hcr.below v0
  replace h2 := h2.below v0
  replace ba := ba.below v0 ba.lt
  replace hB := hB.trans (v0.mono hB.size)
  clear v0 h3
  obtain ⟨b0, o0, A0, c0, rfl, -, -⟩ := hcr.at (k := 0) hc0
  obtain ⟨g2, p2, rfl, -⟩ := h2.at (k := 0) (by omega)
  obtain ⟨n, hnI, hn2, hn3⟩ : ∃ n : Nat, (((cs.length : Nat) : Int) / 2) = (n : Int) ∧ n ≤ cs.length ∧ n ≤ qs.length := ⟨cs.length / 2, by omega, by omega, by have := HL.out; omega⟩
  have hpre : Hid (runF a (cs.take n) = qs.take n) := Lib.hid (by rw [Hqs.out]; exact prefix_law Hv.out hn2)
  have hT : ∀ w', RdL fB w' A1 a.wa → RdSS fB w' (some ⟨b0, o0, none⟩) cs → Calls Try.prog 8 #[acV a A1 c1, .slice (some ⟨b0, o0, none⟩) n d] w' fun e w'' => ∃ A7 c7, e = .returned (.slice A7 n c7) ∧ RdL fI w'' A7 (qs.take n) ∧ Below w'.heap.size w' w'' := fun w' hr hc => by
    have h := iRun_any a (cs.take n) A1 (some ⟨b0, o0, none⟩) c1 d w' hr (hc.take n) (by rw [List.length_take]; omega)
    rw [List.length_take, Nat.min_eq_left hn2, hpre.out] at h
    refine h.mono ?_
    rintro e w'' ⟨A7, c7, rfl, h7, v⟩
    exact ⟨A7, c7, by rw [List.length_take, Nat.min_eq_left hn3], h7.rd, v⟩
  have hE : ∀ w' A7 c7, RdL fI w' A7 (qs.take n) → RdL fI w' (some ⟨g2, p2, none⟩) qs → Calls Try.prog 9 #[.slice A7 n c7, .slice (some ⟨g2, p2, none⟩) n c2] w' fun e w'' => e = .returned (.bool true) ∧ Below w'.heap.size w' w'' := fun w' A7 c7 h1 h2 => by
    have h := equalInts_same (qs.take n) A7 (some ⟨g2, p2, none⟩) c7 c2 w' h1 (h2.take n) (by rw [List.length_take]; omega)
    rw [List.length_take, Nat.min_eq_left hn3] at h
    exact h
  have hnd : n ≤ d := by omega
  have hnc : n ≤ c2 := by omega
  clear hn2 hn3
  have hd0 : 0 < d := by omega
  have hc20 : 0 < c2 := by omega
  go_wp2_with fail
  obtain ⟨S, hS⟩ : ∃ S : World → Prop, S = fun x => Blk x ga 25 (acC a A1 c1) := ⟨_, rfl⟩
  have hS1 : ∀ x, S x → Blk x ga 25 (acC a A1 c1) := fun x h => by rw [hS] at h; exact h
  have hS2 : ∀ x, Blk x ga 25 (acC a A1 c1) → S x := fun x h => by rw [hS]; exact h
  obtain ⟨k0, k1, k2, k3, k4, k5⟩ := held_cells hS1
  have HS2 := Lib.hid hS2
  clear hS hS1 hS2
  refine wp_region_mix S [(0, 0), (0, 1), (0, 2), (0, 3), (0, 5), (0, 6), (0, 7), (1, 4), (1, 8), (0, 9)] [] (by kernel_rfl) (by kernel_rfl) (HS2.out _ ba.drew) ?_
  intro hne0
  simp only [mixOps, List.filterMap_cons, List.filterMap_nil, List.getElem?_toArray, List.getElem?_cons_zero, List.getElem?_cons_succ, Option.map_some]
  replace ba := ba.drew
  replace hB := hB.drew
  replace hr := hr.drew
  replace hcr := hcr.drew
  replace h2 := h2.drew
  generalize w5.drew = w6 at *
  repeat (refine mix_early (fun K hK => ?_); go_simp; refine hK _ ?_; clear hK K)
  refine mix_late rfl (fun K hK => ?_)
  go_wp2_with fail
  refine (hT _ hr hcr).mono ?_
  rintro e w7 ⟨A7, c7, rfl, h7, v0⟩
  replace ba := ba.below v0 ba.lt
  replace h2 := h2.below v0
  replace hB := hB.trans (v0.mono hB.size)
  clear v0
  go_wp2_with fail
  refine ⟨HS2.out _ ba, ?_⟩
  refine mix_late rfl (fun K hK => ?_)
  go_wp2_with fail
  refine (hE _ A7 c7 h7 h2).mono ?_
  rintro e w8 ⟨rfl, v0⟩
  replace ba := ba.below v0 ba.lt
  replace hB := hB.trans (v0.mono hB.size)
  clear v0
  go_wp2_with fail
  refine ⟨HS2.out _ ba, ?_⟩
  repeat (refine mix_early (fun K hK => ?_); go_simp; refine hK _ ?_; clear hK K)
  refine mix_nil ?_
  simp only [tailT, List.filterMap_nil]
  refine wpLateC_nil (NoPanic.normal ?_)
  go_wp2_with fail
  go_ret
  exact ⟨rfl, hB⟩

set_option maxRecDepth 100000 in
theorem lifted (os : Os) (started : os.Started) (H : Type) (enc : TypeId × Value → H) :
    ReturnsInHanded {} Try.checked os 4 .any (Rows.fnRunActorPrefixSpec.pre6 enc Try.prog Try.f4 Rows.fnRunActorPrefixRow.domain false) (Rows.fnRunActorPrefixSpec.post enc Try.prog Try.f4 false true false false) := by
  refine returnsInHanded_of_change (C := Try.checked) own started (by kernel_rfl) Try.func4
    (ChangeSpec.witness6 (enc := enc) (C := Try.checked) false ⟨#[], #[.slice none 0 0], []⟩ 8 (by kernel_rfl) (by kernel_rfl) (by kernel_rfl) (by kernel_rfl)) ?_
  intro W base args ds gs before hval0 hW hcnd _
  have hval : ∀ (j : Nat) t v, Try.f4.params[j]? = some t → args[j]? = some v → Value.okWide Try.prog W .any base t v := hval0
  have hW' := hW
  obtain ⟨p, q, hA0, hV, rfl, hfz, hnd⟩ := hW
  have hA : DataW.TrodAll enc Try.prog W 0 (fun _ => true) true Try.f4.params.toList args.toList ds p := hA0
  rw [Try.params4] at hA hval
  obtain ⟨v0, vs0, d0, ds0, p0, q0, hargs, rfl, rfl, h0, r0⟩ := trodAll_cons hA
  obtain ⟨rfl, rfl, rfl⟩ := trodAll_nil r0
  obtain rfl : args = #[v0] := by cases args; simp_all
  obtain ⟨rfl, rfl⟩ := trodVars_none hV
  have k0 := h0
  have lt0 : ∀ x ∈ p0, x.block < W.heap.size := by obtain ⟨m, hm⟩ := k0; exact DataW.trod_lt m _ _ _ hm
  obtain ⟨a0, len0, cap0, rfl⟩ := okWide_slice Try.underlying22 (hval 0 22 v0 rfl rfl)
  obtain ⟨w0, hc0⟩ := open_bytes Try.underlying22 Try.underlying5 (by kernel_rfl) h0
  clear hA0 hval0
  refine (walk a0 len0 cap0 W w0 hc0).mono fun e W' ⟨he, bel⟩ => ?_
  subst he
  exact ⟨_, rfl, _, _, _, [], _, [], hW', trodAll_mk1 (shut_bool Try.underlying4 _), (trodAll_cons_mk (Below.trod laidOut (by kernel_rfl) (of_decide_eq_true (by kernel_rfl)) k0 bel lt0) trodAll_mk0), rfl, bel.frame _, fun h => by cases h⟩

theorem over : Rows.fnRunActorPrefixRow.holds Try.pinned (OpenSpec.ofChange Rows.fnRunActorPrefixSpec) :=
  OpenClaim.holds_of_wide 4 Try.f4 rfl rfl rfl rfl rfl rfl rfl ⟨rfl, rfl, rfl, rfl, rfl⟩ rfl rfl rfl rfl rfl (by kernel_rfl) Try.func4 (by kernel_rfl)
    (of_decide_eq_true (by kernel_rfl)) (by unfold Func.isWrapper; first | (rw [if_pos (by decide +kernel)]; kernel_rfl) | (rw [if_neg (by decide +kernel)]; exact ⟨rfl, rfl⟩))
    (fun os started H enc _ => lifted os started H enc)

theorem proved : Rows.FnRunActorPrefixSaid := over
end Go.Proofs.Ytkppjngpllmpfaa.FnRunActorPrefix
