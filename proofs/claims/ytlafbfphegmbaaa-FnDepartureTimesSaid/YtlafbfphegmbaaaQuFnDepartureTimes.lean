/-
  The statement FnDepartureTimes: cars leave at green.
-/
import Derived.Test.YtlafbfphegmbaaaOpen
import Derived.Test.YtlafbfphegmbaaaDrList
import Derived.Test.YtlafbfphegmbaaaWaits
import Derived.Test.YtlafbfphegmbaaaQuLaw
namespace Go.Proofs.Ytlafbfphegmbaaa.FnDepartureTimes
open Go.RowKit Go.ChangeShapes Go.WideShapes Go.ChangeAt Go.Proofs.Ytlafbfphegmbaaa
set_option linter.unusedVariables false

theorem good (ar : List Int) (gr : List Bool) (i : Nat) (h : i < (departF ar gr).length) :
    ∃ n : Nat, (departF ar gr)[i] = n ∧ n < 150 ∧ ∃ hn : n < gr.length, gr[n] = true := by
  by_cases hv : validQ ar gr = true
  · have hm := List.getElem_mem h
    simp only [departF, hv, if_true] at hm ⊢
    obtain ⟨n, h1, h2, h3⟩ := depart_mem ar gr _ _ hm
    have := validQ_len hv
    have hn : n < gr.length := by omega
    exact ⟨n, h1, by omega, hn, by rw [gg_at hn, h3]⟩
  · simp [departF, hv] at h
theorem asc (ar : List Int) (gr : List Bool) (i : Nat) (h : i + 1 < (departF ar gr).length) : (departF ar gr)[i] < (departF ar gr)[i + 1] := by
  by_cases hv : validQ ar gr = true
  · simp only [departF, hv, if_true] at h ⊢
    exact depart_asc ar gr _ (i + 1) (by omega) h
  · simp [departF, hv] at h

set_option maxHeartbeats 1600000 in
theorem walk (A : Option Addr) (len cap : Nat) (w : World) (h : Bytes w A len) (hc : len ≤ cap) :
    Calls Try.prog 9 #[.slice A len cap] w fun e w' => e = .returned (.bool true) ∧ Below w.heap.size w w' := by
  by_cases hl1 : 1048576 < len
  · go_enter Try.func9, Try.ntmps9
    go_wp2_with fail
    go_ret
    exact ⟨rfl, Below.refl _ _⟩
  go_enter Try.func9, Try.ntmps9
  go_wp2_with fail
  refine (drawQ2_any _ A len cap h hc).mono ?_
  rintro e w1 ⟨ar, gr, A1, B1, c1, d1, rfl, ha, hb, hla, hlb, hsep, hB⟩
  replace ha := ha.rd
  replace hb := hb.rd
  have hz := hB.size
  have hD : (departF ar gr).length ≤ 150 := (lens ar gr).2.2
  clear h hsep
  go_wp2_with fail
  refine (iDepart_any ar gr A1 B1 c1 d1 _ ha hb (by omega) (by omega)).mono ?_
  rintro e w2 ⟨A2, c2, rfl, h2, b2⟩
  replace h2 := h2.rd
  replace ha := ha.below b2
  replace hb := hb.below b2
  replace hB := hB.trans (b2.mono hz)
  have hz2 := hB.size
  clear b2
  go_wp2_with fail
  refine (sDepart_any ar gr A1 B1 c1 d1 _ ha hb (by omega) (by omega)).mono ?_
  rintro e w3 ⟨A3, c3, rfl, h3, b3⟩
  replace h3 := h3.rd
  replace hb := hb.below b3
  replace h2 := h2.below b3
  replace hB := hB.trans (b3.mono hz2)
  have hz3 := hB.size
  clear b3 ha
  go_wp2_with fail
  refine (equalInts_same (departF ar gr) A2 A3 c2 c3 _ h2 h3 (by omega)).mono ?_
  rintro e w4 ⟨rfl, b4⟩
  replace hb := hb.below b4
  replace h2 := h2.below b4
  replace hB := hB.trans (b4.mono hz3)
  have hz4 := hB.size
  clear b4 h3
  go_wp2_with fail
  go_loopw [6] (fun i wr => ∃ k : Nat, k ≤ (departF ar gr).length ∧ i = .int .i64 k ∧ ∃ m, wr = w4.drewN m) (fun i _ => (departF ar gr).length - (intOf i).toNat)
  case atStart => exact ⟨0, Nat.zero_le _, rfl, 0, rfl⟩
  case round =>
    obtain ⟨k, hk, rfl, m, rfl⟩ := hrel
    by_cases hlt : k < (departF ar gr).length
    · obtain ⟨n, hn, hn150, hng, hgn⟩ := good ar gr k hlt
      obtain ⟨b2, o2, rfl, hc2⟩ := h2.at hlt
      obtain ⟨b1, o1, rfl, hc1⟩ := hb.at hng
      rw [hgn] at hc1
      rw [hn] at hc2
      have Hb := Lib.hid hb
      clear hb hgn
      cases k with
      | zero =>
        have H2 := Lib.hid h2
        clear h2 hn
        simp only [Nat.add_zero, fI] at hc2
        simp only [fB] at hc1
        have f1 : decide (((gr.length : Nat) : Int) ≤ ((n : Nat) : Int)) = false := by simp; omega
        have f2 : ¬ (gr.length ≤ n) := by omega
        have f3 : decide (((n : Nat) : Int) < 0) = false := by simp
        clear hz hz2 hz3 hz4 hla hlb hD hl1 hc hn150
        go_wp2_with fail
        refine wp_region_quiet_lit (by kernel_rfl) (by kernel_rfl) ?_
        repeat (go_big_quiet_step (fail))
        refine wpQuiet_nil ?_
        intro _ hw'
        obtain ⟨nq, hw''⟩ := hw'
        subst hw''
        go_wp2_with fail
        go_roundw
        case rel => exact ⟨0 + 1, by omega, by go_num, m + nq, rfl⟩
        case measure => simp [intOf]; omega
      | succ k =>
        obtain ⟨b3, o3, h33, hc3⟩ := h2.at (k := k) (by omega)
        injection h33 with h33
        injection h33 with h34 h35
        subst h34 h35
        have ha := asc ar gr k hlt
        rw [hn] at ha
        generalize (departF ar gr)[k] = p at hc3 ha
        have H2 := Lib.hid h2
        clear h2 hn
        simp only [fI] at hc2 hc3
        simp only [fB] at hc1
        have f1 : decide (((gr.length : Nat) : Int) ≤ ((n : Nat) : Int)) = false := by simp; omega
        have f2 : ¬ (gr.length ≤ n) := by omega
        have f3 : decide (((n : Nat) : Int) < 0) = false := by simp
        have f4 : decide (((n : Nat) : Int) ≤ p) = false := by simp; omega
        clear hz hz2 hz3 hz4 hla hlb hl1 hc hn150
        go_wp2_with fail
        refine wp_region_quiet_lit (by kernel_rfl) (by kernel_rfl) ?_
        repeat (go_big_quiet_step (fail))
        refine wpQuiet_nil ?_
        intro _ hw'
        obtain ⟨nq, hw''⟩ := hw'
        subst hw''
        go_wp2_with fail
        go_roundw
        case rel => exact ⟨k + 1 + 1, by omega, by go_num, m + nq, rfl⟩
        case measure => simp [intOf]; omega
    · go_wp2_with fail
      go_ret
      exact ⟨rfl, below_drewN hB _⟩

set_option maxRecDepth 100000 in
theorem lifted (os : Os) (started : os.Started) (H : Type) (enc : TypeId × Value → H) :
    ReturnsInHanded {} Try.checked os 9 .any (Rows.fnDepartureTimesSpec.pre6 enc Try.prog Try.f9 Rows.fnDepartureTimesRow.domain false) (Rows.fnDepartureTimesSpec.post enc Try.prog Try.f9 false true false false) := by
  refine returnsInHanded_of_change (C := Try.checked) own started (by kernel_rfl) Try.func9
    (ChangeSpec.witness6 (enc := enc) (C := Try.checked) false ⟨#[], #[.slice none 0 0], []⟩ 8 (by kernel_rfl) (by kernel_rfl) (by kernel_rfl) (by kernel_rfl)) ?_
  intro W base args ds gs before hval0 hW hcnd _
  have hval : ∀ (j : Nat) t v, Try.f9.params[j]? = some t → args[j]? = some v → Value.okWide Try.prog W .any base t v := hval0
  have hW' := hW
  obtain ⟨p, q, hA0, hV, rfl, hfz, hnd⟩ := hW
  have hA : DataW.TrodAll enc Try.prog W 0 (fun _ => true) true Try.f9.params.toList args.toList ds p := hA0
  rw [Try.params9] at hA hval
  obtain ⟨v0, vs0, d0, ds0, p0, q0, hargs, rfl, rfl, h0, r0⟩ := trodAll_cons hA
  obtain ⟨rfl, rfl, rfl⟩ := trodAll_nil r0
  obtain rfl : args = #[v0] := by cases args; simp_all
  obtain ⟨rfl, rfl⟩ := trodVars_none hV
  have k0 := h0
  have lt0 : ∀ x ∈ p0, x.block < W.heap.size := by obtain ⟨m, hm⟩ := k0; exact DataW.trod_lt m _ _ _ hm
  obtain ⟨a0, len0, cap0, rfl⟩ := okWide_slice Try.underlying33 (hval 0 33 v0 rfl rfl)
  obtain ⟨w0, hc0⟩ := open_bytes Try.underlying33 Try.underlying5 (by kernel_rfl) h0
  clear hA0 hval0
  refine (walk a0 len0 cap0 W w0 hc0).mono fun e W' ⟨he, bel⟩ => ?_
  subst he
  exact ⟨_, rfl, _, _, _, [], _, [], hW', trodAll_mk1 (shut_bool Try.underlying4 _), (trodAll_cons_mk (Below.trod laidOut (by kernel_rfl) (of_decide_eq_true (by kernel_rfl)) k0 bel lt0) trodAll_mk0), rfl, bel.frame _, fun h => by cases h⟩

theorem over : Rows.fnDepartureTimesRow.holds Try.pinned (OpenSpec.ofChange Rows.fnDepartureTimesSpec) :=
  OpenClaim.holds_of_wide 9 Try.f9 rfl rfl rfl rfl rfl rfl rfl ⟨rfl, rfl, rfl, rfl, rfl⟩ rfl rfl rfl rfl rfl (by kernel_rfl) Try.func9 (by kernel_rfl)
    (of_decide_eq_true (by kernel_rfl)) (by unfold Func.isWrapper; first | (rw [if_pos (by decide +kernel)]; kernel_rfl) | (rw [if_neg (by decide +kernel)]; exact ⟨rfl, rfl⟩))
    (fun os started H enc _ => lifted os started H enc)

theorem proved : Rows.FnDepartureTimesSaid := over
end Go.Proofs.Ytlafbfphegmbaaa.FnDepartureTimes
