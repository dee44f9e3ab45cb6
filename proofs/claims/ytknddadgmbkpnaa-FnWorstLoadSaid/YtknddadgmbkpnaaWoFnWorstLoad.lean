/-
  The statement FnWorstLoad: no stage is loaded more.
-/
import Derived.Test.YtknddadgmbkpnaaOpen
import Derived.Test.YtknddadgmbkpnaaWoDraw
import Derived.Test.YtknddadgmbkpnaaWoLaw
namespace Go.Proofs.Ytknddadgmbkpnaa.FnWorstLoad
open Go.RowKit Go.ChangeShapes Go.WideShapes Go.ChangeAt Go.Proofs.Ytknddadgmbkpnaa
set_option linter.unusedVariables false

set_option maxHeartbeats 1600000 in
theorem walk (A : Option Addr) (len cap : Nat) (w : World) (h : Bytes w A len) (hc : len ≤ cap) :
    Calls Try.prog 4 #[.slice A len cap] w fun e w' => e = .returned (.bool true) ∧ Below w.heap.size w w' := by
  by_cases hl1 : 1048576 < len
  · go_enter Try.func4, Try.ntmps4
    go_wp2_with fail
    go_ret
    exact ⟨rfl, Below.refl _ _⟩
  go_enter Try.func4, Try.ntmps4
  go_wp2_with fail
  refine (drawW_any _ A len cap h hc).mono ?_
  rintro e w1 ⟨de, gr, A1, B1, c1, d1, rfl, ha, hb, hla, hlb, hB⟩
  have hz := hB.size
  clear h
  cases hv : validW de gr with
  | false =>
    go_wp2_with fail
    refine (iWorst_no de gr A1 B1 c1 d1 _ ha hb (by omega) (by omega) hv).mono ?_
    rintro e w2 ⟨rfl, b2⟩
    replace ha := ha.below b2
    replace hb := hb.below b2
    replace hB := hB.trans (b2.mono hz)
    have hz2 := hB.size
    clear b2
    go_wp2_with fail
    refine (sWorst_no de gr A1 B1 c1 d1 _ ha hb (by omega) (by omega) hv).mono ?_
    rintro e w3 ⟨rfl, b3⟩
    replace hB := hB.trans (b3.mono hz2)
    clear b3
    go_wp2_with fail
    go_ret
    exact ⟨rfl, hB⟩
  | true =>
    have hI := fun w ha hb => iWorst_yes de gr A1 B1 c1 d1 w ha hb hv
    have hS := fun w ha hb => sWorst_yes de gr A1 B1 c1 d1 w ha hb hv
    obtain ⟨hn, hlg, hd, hg⟩ := validW_parts hv
    have hgp : ∀ i, i < de.length → 1 ≤ ga gr i ∧ ga gr i ≤ 180 := fun i hi => by
      have := allB_at hg (k := i) (by omega)
      rwa [ga_at (by omega)] at this
    have hw := wl_le de gr de.length de.length (by omega) (Nat.le_refl _)
    have hworst := Lib.hid (wl_worst (de := de) (gr := gr) (fun i hi => by have := hgp i hi; omega) de.length (Nat.le_refl _) (by omega))
    have hrf := Lib.hid (fun i j hi hj => round_facts hd hg (i := i) (j := j) hi hj)
    obtain ⟨a, haw⟩ : ∃ a, a = ga de (wl de gr de.length) := ⟨_, rfl⟩
    obtain ⟨b, hbw⟩ : ∃ b, b = ga gr (wl de gr de.length) := ⟨_, rfl⟩
    have hb1 := hgp _ hw
    rw [← hbw] at hb1
    rw [← haw, ← hbw] at hI hS
    have Ha := Lib.hid haw
    have Hb := Lib.hid hbw
    have Hlg := Lib.hid hlg
    have hl1 : de.length ≤ gr.length := by omega
    have hl2 : gr.length ≤ de.length := by omega
    have hb2 : decide (b ≤ 0) = false := by simp; omega
    clear haw hbw hlg hv hd hg hgp
    go_wp2_with fail
    refine (hI _ ha hb).mono ?_
    rintro e w2 ⟨rfl, b2⟩
    replace ha := ha.below b2
    replace hb := hb.below b2
    replace hB := hB.trans (b2.mono hz)
    have hz2 := hB.size
    clear b2 hI
    go_wp2_with fail
    refine (hS _ ha hb).mono ?_
    rintro e w3 ⟨rfl, b3⟩
    replace ha := ha.below b3
    replace hb := hb.below b3
    replace hB := hB.trans (b3.mono hz2)
    clear b3 hS
    go_wp2_with fail
    go_loopw [9, 10] (fun sm i wr => ∃ k : Nat, k ≤ de.length ∧ i = .int .i64 k ∧ (∃ s : Bool, sm = .bool s ∧ (wl de gr de.length < k → s = true)) ∧ ∃ m, wr = w3.drewN m) (fun _ i _ => de.length - (intOf i).toNat)
    case atStart => exact ⟨0, Nat.zero_le _, rfl, ⟨false, rfl, fun h => by omega⟩, 0, rfl⟩
    case round =>
      obtain ⟨k, hk, rfl, ⟨s, rfl, hs⟩, m, rfl⟩ := hrel
      by_cases hlt : k < de.length
      · have p1 := hrf.out k (wl de gr de.length) hlt (by omega)
        have p2 := hrf.out (wl de gr de.length) k hw (by omega)
        have p3 := hworst.out k hlt
        rw [← Ha.out, ← Hb.out] at p3
        rw [← Hb.out] at p1
        rw [← Ha.out] at p2
        have hltg : k < gr.length := by omega
        obtain ⟨b1, o1, rfl, hc1⟩ := ha.at hlt
        obtain ⟨b2, o2, rfl, hc2⟩ := hb.at hltg
        rw [ga_at hlt] at hc1
        rw [ga_at hltg] at hc2
        simp only [fI] at hc1 hc2
        have hself := Lib.hid (show wl de gr de.length = k → ga de k = a ∧ ga gr k = b from fun e => by rw [Ha.out, Hb.out, e]; exact ⟨rfl, rfl⟩)
        have Hs := Lib.hid hs
        clear ha hb hs
        generalize ga de k = x at *
        generalize ga gr k = y at *
        have f1 : decide (a * y < x * b) = false := by simp; omega
        have f2 : IntKind.i64.wrap (x * b) = x * b := by
          simp [IntKind.wrap, IntKind.bits, IntKind.signed]
          omega
        have f3 : IntKind.i64.wrap (a * y) = a * y := by
          simp [IntKind.wrap, IntKind.bits, IntKind.signed]
          omega
        go_wp2_with fail
        go_quiet (fail)
        cases s with
        | true =>
          go_wp2_with fail
          go_roundw
          case rel => exact ⟨k + 1, by omega, by go_num, ⟨true, rfl, fun _ => rfl⟩, m + nq, rfl⟩
          case measure => simp [intOf]; omega
        | false =>
          by_cases e1 : x = a
          · have g1 : (x == a) = true := by simpa using e1
            by_cases e2 : y = b
            · have g2 : (y == b) = true := by simpa using e2
              clear e1 e2
              go_wp2_with fail
              go_roundw
              case rel => exact ⟨k + 1, by omega, by go_num, ⟨true, rfl, fun _ => rfl⟩, m + nq, rfl⟩
              case measure => simp [intOf]; omega
            · have g2 : (y == b) = false := by simpa using e2
              have hN := Lib.hid (show ¬ wl de gr de.length < k + 1 from fun h => by
                rcases Nat.lt_or_ge (wl de gr de.length) k with h1 | h1
                · exact absurd (Hs.out h1) (by decide)
                · exact e2 (hself.out (by omega)).2)
              clear e1 e2
              go_wp2_with fail
              go_roundw
              case rel => exact ⟨k + 1, by omega, by go_num, ⟨false, rfl, fun h => absurd h hN.out⟩, m + nq, rfl⟩
              case measure => simp [intOf]; omega
          · have g1 : (x == a) = false := by simpa using e1
            have hN := Lib.hid (show ¬ wl de gr de.length < k + 1 from fun h => by
              rcases Nat.lt_or_ge (wl de gr de.length) k with h1 | h1
              · exact absurd (Hs.out h1) (by decide)
              · exact e1 (hself.out (by omega)).1)
            clear e1
            go_wp2_with fail
            go_roundw
            case rel => exact ⟨k + 1, by omega, by go_num, ⟨false, rfl, fun h => absurd h hN.out⟩, m + nq, rfl⟩
            case measure => simp [intOf]; omega
      · obtain rfl : k = de.length := by omega
        have hst := hs hw
        subst hst
        go_wp2_with fail
        go_ret
        exact ⟨rfl, below_drewN hB _⟩

set_option maxRecDepth 100000 in
theorem lifted (os : Os) (started : os.Started) (H : Type) (enc : TypeId × Value → H) :
    ReturnsInHanded {} Try.checked os 4 .any (Rows.fnWorstLoadSpec.pre6 enc Try.prog Try.f4 Rows.fnWorstLoadRow.domain false) (Rows.fnWorstLoadSpec.post enc Try.prog Try.f4 false true false false) := by
  refine returnsInHanded_of_change (C := Try.checked) own started (by kernel_rfl) Try.func4
    (ChangeSpec.witness6 (enc := enc) (C := Try.checked) false ⟨#[], #[.slice none 0 0], []⟩ 8 (by kernel_rfl) (by kernel_rfl) (by kernel_rfl) (by kernel_rfl)) ?_
  intro W base args ds gs before hval0 hW hcnd _
  have hval : ∀ (j : Nat) t v, Try.f4.params[j]? = some t → args[j]? = some v → Value.okWide Try.prog W .any base t v := hval0
  have hW' := hW
  obtain ⟨p, q, hA0, hV, rfl, hfz, hnd⟩ := hW
  have hA : DataW.TrodAll enc Try.prog W 0 (fun _ => true) true Try.f4.params.toList args.toList ds p := hA0
  rw [Try.params4] at hA hval
  obtain ⟨v0, vs0, d0, ds0, p0, q0, hargs, rfl, rfl, h0, r0⟩ := trodAll_cons hA
  obtain ⟨rfl, rfl, rfl⟩ := trodAll_nil r0
  obtain rfl : args = #[v0] := by cases args; simp_all
  obtain ⟨rfl, rfl⟩ := trodVars_none hV
  have k0 := h0
  have lt0 : ∀ x ∈ p0, x.block < W.heap.size := by obtain ⟨m, hm⟩ := k0; exact DataW.trod_lt m _ _ _ hm
  obtain ⟨a0, len0, cap0, rfl⟩ := okWide_slice Try.underlying27 (hval 0 27 v0 rfl rfl)
  obtain ⟨w0, hc0⟩ := open_bytes Try.underlying27 Try.underlying5 (by kernel_rfl) h0
  clear hA0 hval0
  refine (walk a0 len0 cap0 W w0 hc0).mono fun e W' ⟨he, bel⟩ => ?_
  subst he
  exact ⟨_, rfl, _, _, _, [], _, [], hW', trodAll_mk1 (shut_bool Try.underlying4 _), (trodAll_cons_mk (Below.trod laidOut (by kernel_rfl) (of_decide_eq_true (by kernel_rfl)) k0 bel lt0) trodAll_mk0), rfl, bel.frame _, fun h => by cases h⟩

theorem over : Rows.fnWorstLoadRow.holds Try.pinned (OpenSpec.ofChange Rows.fnWorstLoadSpec) :=
  OpenClaim.holds_of_wide 4 Try.f4 rfl rfl rfl rfl rfl rfl rfl ⟨rfl, rfl, rfl, rfl, rfl⟩ rfl rfl rfl rfl rfl (by kernel_rfl) Try.func4 (by kernel_rfl)
    (of_decide_eq_true (by kernel_rfl)) (by unfold Func.isWrapper; first | (rw [if_pos (by decide +kernel)]; kernel_rfl) | (rw [if_neg (by decide +kernel)]; exact ⟨rfl, rfl⟩))
    (fun os started H enc _ => lifted os started H enc)

theorem proved : Rows.FnWorstLoadSaid := over
end Go.Proofs.Ytknddadgmbkpnaa.FnWorstLoad
