/-
  The statement FnRunActorGreens.
-/
import Derived.Test.YtkppjngpllmpfaaOpen
import Derived.Test.YtkppjngpllmpfaaRunFn
namespace Go.Proofs.Ytkppjngpllmpfaa.FnRunActorGreens
open Go.RowKit Go.ChangeShapes Go.WideShapes Go.ChangeAt Go.Proofs.Ytkppjngpllmpfaa
set_option linter.unusedVariables false

set_option maxHeartbeats 6400000 in
theorem walk (A : Option Addr) (len cap : Nat) (w : World) (h : Bytes w A len) (hc : len ≤ cap) :
    Calls Try.prog 3 #[.slice A len cap] w fun e w' => e = .returned (.bool true) ∧ Below w.heap.size w w' := by
  by_cases hl1 : 1048576 < len
  · go_enter Try.func3, Try.ntmps3
    go_wp2_with fail
    go_ret
    exact ⟨rfl, Below.refl _ _⟩
  go_enter Try.func3, Try.ntmps3
  go_wp2_with fail
  refine (drawRn_any _ A len cap h hc).mono ?_
  rintro e w1 ⟨a, A1, c1, C, d, cs, rfl, ⟨ha1, ha2, ha3⟩, hcl, hcd, hfit, hr, hcr, hB⟩
  have Hfit := Lib.hid hfit
  clear h hfit
  have hw5 : a.wa.length ≤ 6 := ha3
  have hQ : (runF a cs).length ≤ 150 := runF_length
  obtain ⟨qs, hqs⟩ : ∃ qs, qs = runF a cs := ⟨_, rfl⟩
  have hI := fun w hr hc => iRun_any a cs A1 C c1 d w hr hc (by omega)
  have hW := fun w hr hc => sRun_any a cs A1 C c1 d w hr hc (by omega)
  rw [← hqs] at hI hW hQ
  have Hqs := Lib.hid hqs
  clear hqs
  go_wp2_with fail
  have ba := Blk.new w1 25 (acC a A1 c1)
  replace hr := hr.alloc (.cells (acC a A1 c1) 25)
  replace hcr := hcr.alloc (.cells (acC a A1 c1) 25)
  replace hB := hB.alloc hB.size (.cells (acC a A1 c1) 25)
  generalize w1.alloc (.cells (acC a A1 c1) 25) = w2 at *
  generalize w1.heap.size = ga at *
  refine (hI _ hr hcr).mono ?_
  rintro e w3 ⟨A2, c2, rfl, h2, v0⟩
  replace hr := hr.below v0
  replace hcr := hcr.below v0
  replace ba := ba.below v0 ba.lt
  replace hB := hB.trans (v0.mono hB.size)
  have h2c := h2.capLe
  replace h2 := h2.rd
  clear v0
  obtain ⟨f0, f1, f2, f3, f4, f5⟩ := loadT ba
  by_cases hq : qs = []
  · rw [hq] at h2 hW ⊢
    clear hq hQ hI h2c
    simp only [List.length_nil] at h2 hW ⊢
    go_wp2_with fail
    refine (hW _ hr hcr).mono ?_
    rintro e w4 ⟨A3, c3, rfl, h3, v0⟩
    replace hr := hr.below v0
    replace hcr := hcr.below v0
    replace h2 := h2.below v0
    replace ba := ba.below v0 ba.lt
    replace hB := hB.trans (v0.mono hB.size)
    replace h3 := h3.rd
    clear v0 f0 f1 f2 f3 f4 f5
    go_wp2_with fail
    refine (equalInts_same [] A2 A3 c2 c3 _ h2 h3 (by decide)).mono ?_
    rintro e w5 ⟨rfl, v0⟩
    replace hr := hr.below v0
    replace hcr := hcr.below v0
    replace h2 := h2.below v0
    replace ba := ba.below v0 ba.lt
    replace hB := hB.trans (v0.mono hB.size)
    clear v0 h3
    obtain ⟨f0, f1, f2, f3, f4, f5⟩ := loadT ba
    go_wp2_with fail
    refine (hW _ hr hcr).mono ?_
    rintro e w6 ⟨A5, c5, rfl, h5, v0⟩
    replace h2 := h2.below v0
    replace hB := hB.trans (v0.mono hB.size)
    replace h5 := h5.rd
    clear v0 f0 f1 f2 f3 f4 f5
    go_wp2_with fail
    refine (equalInts_same [] A2 A5 c2 c5 _ h2 h5 (by decide)).mono ?_
    rintro e w7 ⟨rfl, v0⟩
    replace hB := hB.trans (v0.mono hB.size)
    clear v0
    go_wp2_with fail
    go_ret
    exact ⟨rfl, hB⟩
  replace hq : ¬ qs.length = 0 := fun h => hq (List.eq_nil_of_length_eq_zero h)
  have hv : validR a cs = true := by
    cases hv : validR a cs with
    | true => rfl
    | false => exact absurd (by rw [Hqs.out]; simp [runF, hv]) hq
  have hL : qs.length = cs.length := by rw [Hqs.out, runF, if_pos hv, runL_length]
  have hq1 : (((qs.length : Nat) : Int) == 0) = false := by simpa using fun h => hq (by simp [h])
  have hq0 : ((qs.length : Nat) : Int) ≠ 0 := by omega
  have hc0 : 0 < cs.length := by omega
  have HL := Lib.hid hL
  have Hv := Lib.hid hv
  clear hL hv hI
  go_wp2_with fail
  refine (hW _ hr hcr).mono ?_
  rintro e w4 ⟨A3, c3, rfl, h3, v0⟩
  replace hr := hr.below v0
  replace hcr := hcr.below v0
  replace h2 := h2.below v0
  replace ba := ba.below v0 ba.lt
  replace hB := hB.trans (v0.mono hB.size)
  replace h3 := h3.rd
  clear v0 f0 f1 f2 f3 f4 f5 hW
  go_wp2_with fail
  refine (equalInts_same qs A2 A3 c2 c3 _ h2 h3 (by omega)).mono ?_
  rintro e w5 ⟨rfl, v0⟩
  replace hr := hr.below v0
  replace hcr := hcr.below v0
  replace h2 := h2.below v0
  replace ba := ba.below v0 ba.lt
  replace hB := hB.trans (v0.mono hB.size)
  clear v0 h3
  obtain ⟨g2, p2, rfl, hq0c⟩ := h2.at (k := 0) (by omega)
  have hsg := Lib.hid (fun k hk => (stA_good Hv.out k hk).1)
  have hsf := Lib.hid (fun (k : Nat) (hk : k < cs.length) => stA_fit Hv.out hk)
  have hss := Lib.hid (fun (k : Nat) (hk : k < cs.length) => stA_step (a := a) (cs := cs) hk)
  have hqk := Lib.hid (show ∀ k (h : k < qs.length), qs[k] = outA (stA a cs (k + 1)) from fun k h => by
    have e : qs = runL a cs cs.length := by rw [Hqs.out, runF, if_pos Hv.out]
    subst e
    exact runL_get _ _ _ _ _)
  have hcellq := Lib.hid (show ∀ k, k < qs.length → w5.cell? ⟨g2, p2 + k, none⟩ = some (.int .i64 (outA (stA a cs (k + 1)))) from fun k h => by
    obtain ⟨b', o', e0, hqw⟩ := h2.at h
    injection e0 with e0
    injection e0 with e0 e0'
    subst e0 e0'
    rw [hqw, hqk.out k h])
  clear hr hcr ba h2
  obtain ⟨z0, hz0⟩ : ∃ z, z = qs[0]'(by omega) := ⟨_, rfl⟩
  rw [← hz0] at hq0c
  simp only [fI, Nat.add_zero] at hq0c
  have hql : 0 < qs.length := by omega
  clear hz0
  go_wp2_with fail
  go_loopw [6, 7, 8, 9] (fun run last gap i wr => ∃ j : Nat, j < qs.length ∧ i = .int .i64 ((j : Int) + 1) ∧ (∃ r l g : Int, run = .int .i64 r ∧ last = .int .i64 l ∧ gap = .int .i64 g ∧ Hid (Shown (stA a cs (j + 1)) r g) ∧ 0 ≤ r ∧ r ≤ 5 + j ∧ 0 ≤ g ∧ g ≤ 4 + j) ∧ ∃ m, wr = w5.drewN m) (fun _ _ _ i _ => qs.length - (intOf i).toNat)
  case atStart => exact ⟨0, hql, rfl, ⟨5, z0, 4, rfl, rfl, rfl, Lib.hid (shown_start (hsg.out 1 (by omega))), by omega, by omega, by omega, by omega⟩, 0, rfl⟩
  case round =>
    clear hq0c
    obtain ⟨j, hj, rfl, ⟨r, l, g, rfl, rfl, rfl, hsh, hr0, hr1, hg0, hg1⟩, m, rfl⟩ := hrel
    by_cases hlt : (j : Int) + 1 < (qs.length : Int)
    · have hj1 : j + 1 < qs.length := by omega
      have hc1 := hcellq.out j hj
      have hc2 := hcellq.out (j + 1) hj1
      have hjc : j + 1 < cs.length := by have := HL.out; omega
      have hst := shown_step (c := cs[j + 1]) (hsg.out (j + 1) (by omega)) (hsf.out (j + 1) hjc) hsh.out
      rw [← hss.out (j + 1) hjc] at hst
      obtain ⟨x, hx⟩ : ∃ x, x = outA (stA a cs (j + 1)) := ⟨_, rfl⟩
      obtain ⟨y, hy⟩ : ∃ y, y = outA (stA a cs (j + 1 + 1)) := ⟨_, rfl⟩
      rw [← hx] at hc1 hst
      rw [← hy] at hc2 hst
      obtain ⟨j1, hj1e⟩ : ∃ j1, j1 = j + 1 := ⟨_, rfl⟩
      rw [← hj1e] at hc2
      have hw1 : IntKind.i64.wrap ((j : Int) + 1 - 1) = (j : Int) := by simp [IntKind.wrap, IntKind.bits, IntKind.signed]; omega
      have hn1 : ((j : Int) + 1).toNat = j1 := by omega
      have hw2 : IntKind.i64.wrap ((j : Int) + 1) = (j : Int) + 1 := by simp [IntKind.wrap, IntKind.bits, IntKind.signed]; omega
      have hp1 : (0 : Int) ≤ (j : Int) + 1 := by omega
      have hp2 : (j : Int) < (qs.length : Int) := by omega
      clear hx hy hj1e hj1
      rcases hst with ⟨e1, e2⟩ | ⟨e1, e2, e3, e4⟩ | ⟨e1, e2, e3, e4, e5⟩
      · subst e1
        have E2 := Lib.hid e2
        clear e2
        go_wp2_with fail
        go_quiet (fail)
        go_wp2_with fail
        all_goals (refine ⟨⟨j + 1, by omega, by go_num, ⟨_, _, _, rfl, rfl, rfl, E2, by omega, by omega, by omega, by omega⟩, _, rfl⟩, by simp [intOf]; omega⟩)
      · subst e2
        have E4 := Lib.hid e4
        have d1 : ((-1 : Int) == x) = false := by simpa using e1
        have d2 : ¬ r < 5 := by omega
        clear e4 e1 e3
        go_wp2_with fail
        go_quiet (fail)
        go_wp2_with fail
        all_goals (refine ⟨⟨j + 1, by omega, by go_num, ⟨_, _, _, rfl, rfl, rfl, E4, by omega, by omega, by omega, by omega⟩, _, rfl⟩, by simp [intOf]; omega⟩)
      · subst e3
        have E5 := Lib.hid e5
        have d1 : (y == (-1 : Int)) = false := by simpa using e1
        have d2 : ¬ g < 4 := by omega
        clear e5 e1
        go_wp2_with fail
        go_quiet (fail)
        go_wp2_with fail
        all_goals (refine ⟨⟨j + 1, by omega, by go_num, ⟨_, _, _, rfl, rfl, rfl, E5, by omega, by omega, by omega, by omega⟩, _, rfl⟩, by simp [intOf]; omega⟩)
    · go_wp2_with fail
      go_ret
      exact ⟨rfl, below_drewN hB _⟩

set_option maxRecDepth 100000 in
theorem lifted (os : Os) (started : os.Started) (H : Type) (enc : TypeId × Value → H) :
    ReturnsInHanded {} Try.checked os 3 .any (Rows.fnRunActorGreensSpec.pre6 enc Try.prog Try.f3 Rows.fnRunActorGreensRow.domain false) (Rows.fnRunActorGreensSpec.post enc Try.prog Try.f3 false true false false) := by
  refine returnsInHanded_of_change (C := Try.checked) own started (by kernel_rfl) Try.func3
    (ChangeSpec.witness6 (enc := enc) (C := Try.checked) false ⟨#[], #[.slice none 0 0], []⟩ 8 (by kernel_rfl) (by kernel_rfl) (by kernel_rfl) (by kernel_rfl)) ?_
  intro W base args ds gs before hval0 hW hcnd _
  have hval : ∀ (j : Nat) t v, Try.f3.params[j]? = some t → args[j]? = some v → Value.okWide Try.prog W .any base t v := hval0
  have hW' := hW
  obtain ⟨p, q, hA0, hV, rfl, hfz, hnd⟩ := hW
  have hA : DataW.TrodAll enc Try.prog W 0 (fun _ => true) true Try.f3.params.toList args.toList ds p := hA0
  rw [Try.params3] at hA hval
  obtain ⟨v0, vs0, d0, ds0, p0, q0, hargs, rfl, rfl, h0, r0⟩ := trodAll_cons hA
  obtain ⟨rfl, rfl, rfl⟩ := trodAll_nil r0
  obtain rfl : args = #[v0] := by cases args; simp_all
  obtain ⟨rfl, rfl⟩ := trodVars_none hV
  have k0 := h0
  have lt0 : ∀ x ∈ p0, x.block < W.heap.size := by obtain ⟨m, hm⟩ := k0; exact DataW.trod_lt m _ _ _ hm
  obtain ⟨a0, len0, cap0, rfl⟩ := okWide_slice Try.underlying22 (hval 0 22 v0 rfl rfl)
  obtain ⟨w0, hc0⟩ := open_bytes Try.underlying22 Try.underlying5 (by kernel_rfl) h0
  clear hA0 hval0
  refine (walk a0 len0 cap0 W w0 hc0).mono fun e W' ⟨he, bel⟩ => ?_
  subst he
  exact ⟨_, rfl, _, _, _, [], _, [], hW', trodAll_mk1 (shut_bool Try.underlying4 _), (trodAll_cons_mk (Below.trod laidOut (by kernel_rfl) (of_decide_eq_true (by kernel_rfl)) k0 bel lt0) trodAll_mk0), rfl, bel.frame _, fun h => by cases h⟩

theorem over : Rows.fnRunActorGreensRow.holds Try.pinned (OpenSpec.ofChange Rows.fnRunActorGreensSpec) :=
  OpenClaim.holds_of_wide 3 Try.f3 rfl rfl rfl rfl rfl rfl rfl ⟨rfl, rfl, rfl, rfl, rfl⟩ rfl rfl rfl rfl rfl (by kernel_rfl) Try.func3 (by kernel_rfl)
    (of_decide_eq_true (by kernel_rfl)) (by unfold Func.isWrapper; first | (rw [if_pos (by decide +kernel)]; kernel_rfl) | (rw [if_neg (by decide +kernel)]; exact ⟨rfl, rfl⟩))
    (fun os started H enc _ => lifted os started H enc)

theorem proved : Rows.FnRunActorGreensSaid := over
end Go.Proofs.Ytkppjngpllmpfaa.FnRunActorGreens
