/-
  The statement FnQueueLengthsMore: queues are more cars mean longer queues.
-/
import Derived.Test.YtlafbfphegmbaaaOpen
import Derived.Test.YtlafbfphegmbaaaDrList
import Derived.Test.YtlafbfphegmbaaaWaits
import Derived.Test.YtlafbfphegmbaaaQuLaw
import Derived.Test.YtlafbfphegmbaaaLit
namespace Go.Proofs.Ytlafbfphegmbaaa.FnQueueLengthsMore
open Go.RowKit Go.ChangeShapes Go.WideShapes Go.ChangeAt Go.Proofs.Ytlafbfphegmbaaa
set_option linter.unusedVariables false

theorem more_key (ar : List Int) (gr : List Bool) (hv : validQ ar gr = true) (h0 : 0 < ar.length) (hne : ar[0] ≠ 3) (ms : List Int) (hms : ms = ar.set 0 (ar[0] + 1)) :
    (queuesF ms gr).length = ar.length ∧ ∀ k (h1 : k < (queuesF ar gr).length) (h2 : k < (queuesF ms gr).length), (queuesF ar gr)[k] ≤ (queuesF ms gr)[k] ∧ (queuesF ms gr)[k] ≤ (queuesF ar gr)[k] + 1 ∧ 0 ≤ (queuesF ar gr)[k] ∧ (queuesF ar gr)[k] ≤ 1000 := by
  cases ar with
  | nil => simp at h0
  | cons a0 ar =>
    have hf := validQ_few hv
    have ha0 : 0 ≤ a0 ∧ a0 ≤ 3 := hf 0
    have hl := validQ_len hv
    simp only [List.set_cons_zero, List.getElem_cons_zero] at hms hne
    subst hms
    have v1 : validQ ((a0 + 1) :: ar) gr = true := by
      simp only [validQ, allB, List.all_cons, List.length_cons, inB, Bool.and_eq_true, decide_eq_true_eq] at hv ⊢
      refine ⟨hv.1, ?_, hv.2.2⟩
      omega
    refine ⟨by simp only [queuesF, v1, if_true, queuesTo_length, List.length_cons], ?_⟩
    intro k h1 h2
    have e1 : (queuesF (a0 :: ar) gr)[k] = qlen (a0 :: ar) gr (k + 1) := by simp [queuesF, hv, queuesTo]
    have e2 : (queuesF ((a0 + 1) :: ar) gr)[k] = qlen ((a0 + 1) :: ar) gr (k + 1) := by simp [queuesF, v1, queuesTo]
    have e3 := more_le a0 ar gr hf (k + 1)
    have e4 := qlen_bd (a0 :: ar) gr hf (k + 1)
    have e5 : k < (a0 :: ar).length := by simpa [queuesF, hv, queuesTo_length] using h1
    rw [e1, e2]
    omega

set_option maxHeartbeats 1600000 in
theorem walk (A : Option Addr) (len cap : Nat) (w : World) (h : Bytes w A len) (hc : len ≤ cap) :
    Calls Try.prog 7 #[.slice A len cap] w fun e w' => e = .returned (.bool true) ∧ Below w.heap.size w w' := by
  by_cases hl1 : 1048576 < len
  · go_enter Try.func7, Try.ntmps7
    go_wp2_with fail
    go_ret
    exact ⟨rfl, Below.refl _ _⟩
  go_enter Try.func7, Try.ntmps7
  go_wp2_with fail
  refine (drawQ_any _ A len cap h hc).mono ?_
  rintro e w1 ⟨ar, gr, A1, B1, c1, d1, rfl, ha, hb, hla, hlb, hsep, hB⟩
  replace ha := ha.rd
  replace hb := hb.rd
  have hz := hB.size
  have hQ : (queuesF ar gr).length ≤ 150 := by
    by_cases hv : validQ ar gr = true
    · have := validQ_len hv
      simp only [queuesF, hv, if_true, queuesTo_length]
      omega
    · simp [queuesF, hv]
  clear h hsep
  obtain ⟨qs, hqs⟩ : ∃ qs, qs = queuesF ar gr := ⟨_, rfl⟩
  have hI := fun w ha hb => iQueues_any ar gr A1 B1 c1 d1 w ha hb (by omega) (by omega)
  have hW := fun w ha hb => sQueues_any ar gr A1 B1 c1 d1 w ha hb (by omega) (by omega)
  rw [← hqs] at hQ hI hW
  go_wp2_with fail
  refine (hI _ ha hb).mono ?_
  rintro e w2 ⟨A2, c2, rfl, h2, b2⟩
  replace h2 := h2.rd
  replace ha := ha.below b2
  replace hb := hb.below b2
  replace hB := hB.trans (b2.mono hz)
  have hz2 := hB.size
  clear b2
  by_cases hq : qs = []
  · rw [hq] at h2 hW ⊢
    clear hq hQ hI hqs
    simp only [List.length_nil] at h2 hW ⊢
    go_wp2_with fail
    refine (hW _ ha hb).mono ?_
    rintro e w3 ⟨A3, c3, rfl, h3, b3⟩
    replace h3 := h3.rd
    replace ha := ha.below b3
    replace hb := hb.below b3
    replace h2 := h2.below b3
    replace hB := hB.trans (b3.mono hz2)
    have hz3 := hB.size
    clear b3
    go_wp2_with fail
    refine (equalInts_same [] A2 A3 c2 c3 _ h2 h3 (by decide)).mono ?_
    rintro e w4 ⟨rfl, b4⟩
    replace ha := ha.below b4
    replace hb := hb.below b4
    replace h2 := h2.below b4
    replace hB := hB.trans (b4.mono hz3)
    have hz4 := hB.size
    clear b4 h3
    go_wp2_with fail
    refine (hW _ ha hb).mono ?_
    rintro e w5 ⟨A5, c5, rfl, h5, b5⟩
    replace h5 := h5.rd
    replace h2 := h2.below b5
    replace hB := hB.trans (b5.mono hz4)
    have hz5 := hB.size
    clear b5
    go_wp2_with fail
    refine (equalInts_same [] A2 A5 c2 c5 _ h2 h5 (by decide)).mono ?_
    rintro e w6 ⟨rfl, b6⟩
    replace hB := hB.trans (b6.mono hz5)
    clear b6
    go_wp2_with fail
    go_ret
    exact ⟨rfl, hB⟩
  replace hq : ¬ qs.length = 0 := fun h => hq (List.eq_nil_of_length_eq_zero h)
  have hv : validQ ar gr = true := by
    by_cases hv : validQ ar gr = true
    · exact hv
    · exact absurd (by simp [hqs, queuesF, hv]) hq
  have hL : qs.length = ar.length := by simp only [hqs, queuesF, hv, if_true, queuesTo_length]
  have hA150 : ar.length ≤ 150 := by omega
  have hq1 : (((qs.length : Nat) : Int) == 0) = false := by simpa using fun h => hq (by simp [h])
  have hq2 : qs ≠ [] := fun h => hq (by simp [h])
  have h0l : 0 < ar.length := by omega
  have hf := validQ_few hv
  have ha0 : 0 ≤ ar[0] ∧ ar[0] ≤ 3 := by
    have := hf 0
    rw [ga_at h0l]
    exact this
  have key := Lib.hid (fun hne ms hms => more_key ar gr hv h0l hne ms hms)
  rw [← hqs] at key
  have HL := Lib.hid hL
  have hl0 : (0 : Int) < ((ar.length : Nat) : Int) := by omega
  have hn1 : qs.length ≤ ar.length := by omega
  have hn2 : ar.length ≤ qs.length := by omega
  obtain ⟨i0, hi0, hy0, hy1, hy2⟩ := info_parts info_Int
  clear hv hf hqs hI hL
  go_wp2_with fail
  refine (hW _ ha hb).mono ?_
  rintro e w3 ⟨A3, c3, rfl, h3, b3⟩
  replace h3 := h3.rd
  replace ha := ha.below b3
  replace hb := hb.below b3
  replace h2 := h2.below b3
  replace hB := hB.trans (b3.mono hz2)
  have hz3 := hB.size
  clear b3
  go_wp2_with fail
  refine (equalInts_same (qs) A2 A3 c2 c3 _ h2 h3 (by omega)).mono ?_
  rintro e w4 ⟨rfl, b4⟩
  replace ha := ha.below b4
  replace hb := hb.below b4
  replace h2 := h2.below b4
  replace hB := hB.trans (b4.mono hz3)
  have hz4 := hB.size
  clear b4 h3
  by_cases h3 : ar[0] = 3
  · obtain ⟨b1, o1, rfl, hc1⟩ := ha.at h0l
    rw [h3] at hc1
    simp only [Nat.add_zero, fI] at hc1
    clear h3 ha0 key
    go_wp2_with fail
    refine (hW _ ha hb).mono ?_
    rintro e w5 ⟨A5, c5, rfl, h5, b5⟩
    replace h5 := h5.rd
    replace h2 := h2.below b5
    replace hB := hB.trans (b5.mono hz4)
    have hz5 := hB.size
    clear b5
    go_wp2_with fail
    refine (equalInts_same qs A2 A5 c2 c5 _ h2 h5 (by omega)).mono ?_
    rintro e w6 ⟨rfl, b6⟩
    replace hB := hB.trans (b6.mono hz5)
    clear b6
    go_wp2_with fail
    go_ret
    exact ⟨rfl, hB⟩
  obtain ⟨ms, hms⟩ : ∃ ms, ms = ar.set 0 (ar[0] + 1) := ⟨_, rfl⟩
  obtain ⟨hT, key2⟩ := key.out h3 ms hms
  have hT1 : (queuesF ms gr).length ≤ 150 := by omega
  have hT2 : qs.length ≤ (queuesF ms gr).length := by omega
  have hMl := Lib.hid (show ms.length = ar.length by rw [hms, List.length_set])
  have Key := Lib.hid key2
  obtain ⟨b1, o1, rfl, hc1⟩ := ha.at h0l
  simp only [Nat.add_zero, fI] at hc1
  have ha00 : fI ar[0] = fI ar[0] := rfl
  obtain ⟨a0, h0⟩ : ∃ a0, a0 = ar[0] := ⟨_, rfl⟩
  rw [← h0] at hc1 h3 ha0 hms
  have H0 := Lib.hid h0
  have Hms := Lib.hid hms
  clear key key2 hT ha00 h0 hms hW
  have h3b : (a0 == 3) = false := by simpa using h3
  have h00 := OwnL.of_cap (lo := w4.heap.size) fI (Blk.new w4 3 #[]) (Nat.le_refl _) rfl (by simp [maxLen])
  go_wp2_with (at_builtin; refine wpList_appendL rfl (.tmp 42) (.tmp 43) 22 rfl i0 _ 8 Try.underlying22 hi0 hy0 hy1 hy2 rfl rfl h00 (some ⟨b1, o1, none⟩) ar c1 rfl (ha.alloc _) (fun _ => rfl) (by simp; omega) (by omega) (by simp) ?_; intro A6 c6 w6 h6 hg6 hb6; have b6 : Below w4.heap.size w4 w6 := ((Below.refl _ _).alloc (Nat.le_refl _) _).grown hg6 (by simp) (fun k e => by simp at e; omega); have ho := h6.o; rw [List.nil_append] at ho; obtain ⟨g, og, rfl, hcg, hfg, hlog, hltg⟩ := ho.at (k := 0) h0l; have hs := ho.set (k := 0) (x := a0 + 1) h0l; simp only [Nat.add_zero] at hcg hfg hs; rw [← H0.out] at hcg; simp only [fI] at hcg; clear h6 hg6 hb6 ho)
  have b7 : Below w4.heap.size w4 (w6.setCell ⟨g, og, none⟩ (fI (a0 + 1))) := b6.grown (only_set _) b6.size (fun k e => by simp at e; omega)
  have hr7 := hs.rd
  rw [← Hms.out] at hr7
  replace hb := hb.below b7
  replace h2 := h2.below b7
  replace hB := hB.trans (b7.mono hz4)
  have hz7 := hB.size
  have hM := iQueues_any ms gr (some ⟨g, og, none⟩) B1 c6 d1 _ hr7 hb (by rw [hMl.out]; omega) (by omega)
  rw [hMl.out] at hM
  clear hs hr7 b6 b7 ha h00 hq hq1 hq2 h3 h3b hc1
  refine hM.mono ?_
  rintro e w8 ⟨A8, c8, rfl, h8, b8⟩
  replace h8 := h8.rd
  replace h2 := h2.below b8
  replace hB := hB.trans (b8.mono hz7)
  have hz8 := hB.size
  clear b8 hM hb hi0 hy0 hy1 hy2 hcg hfg
  go_wp2_with fail
  go_loopw [8] (fun i wr => ∃ k : Nat, k ≤ qs.length ∧ i = .int .i64 k ∧ ∃ m, wr = w8.drewN m) (fun i _ => qs.length - (intOf i).toNat)
  case atStart => exact ⟨0, Nat.zero_le _, rfl, 0, rfl⟩
  case round =>
    clear hz hz2 hz3 hz4 hz7 hz8 hla hlb hl1 hc
    obtain ⟨k, hk, rfl, m, rfl⟩ := hrel
    by_cases hlt : k < qs.length
    · have hlt8 : k < (queuesF ms gr).length := by omega
      obtain ⟨k1, k2, k3, k4⟩ := Key.out k hlt hlt8
      obtain ⟨b2, o2, rfl, hc2⟩ := h2.at hlt
      obtain ⟨b8, o8, rfl, hc8⟩ := h8.at hlt8
      clear h2 h8
      generalize qs[k] = q at hc2 k1 k2 k3 k4
      generalize (queuesF ms gr)[k] = y at hc8 k1 k2
      simp only [fI] at hc2 hc8
      have f1 : decide ((((queuesF ms gr).length : Nat) : Int) ≤ (k : Int)) = false := by simp; omega
      have f2 : decide (y < q) = false := by simp; omega
      have f3 : decide (q + 1 < y) = false := by simp; omega
      have f4 : IntKind.i64.wrap (q + 1) = q + 1 := by
        simp [IntKind.wrap, IntKind.bits, IntKind.signed]
        omega
      go_wp2_with fail
      go_quiet (fail)
      go_wp2_with fail
      go_roundw
      case rel => exact ⟨k + 1, by omega, by go_num, m + nq, rfl⟩
      case measure => simp [intOf]; omega
    · go_wp2_with fail
      go_ret
      exact ⟨rfl, below_drewN hB _⟩

set_option maxRecDepth 100000 in
theorem lifted (os : Os) (started : os.Started) (H : Type) (enc : TypeId × Value → H) :
    ReturnsInHanded {} Try.checked os 7 .any (Rows.fnQueueLengthsMoreSpec.pre6 enc Try.prog Try.f7 Rows.fnQueueLengthsMoreRow.domain false) (Rows.fnQueueLengthsMoreSpec.post enc Try.prog Try.f7 false true false false) := by
  refine returnsInHanded_of_change (C := Try.checked) own started (by kernel_rfl) Try.func7
    (ChangeSpec.witness6 (enc := enc) (C := Try.checked) false ⟨#[], #[.slice none 0 0], []⟩ 8 (by kernel_rfl) (by kernel_rfl) (by kernel_rfl) (by kernel_rfl)) ?_
  intro W base args ds gs before hval0 hW hcnd _
  have hval : ∀ (j : Nat) t v, Try.f7.params[j]? = some t → args[j]? = some v → Value.okWide Try.prog W .any base t v := hval0
  have hW' := hW
  obtain ⟨p, q, hA0, hV, rfl, hfz, hnd⟩ := hW
  have hA : DataW.TrodAll enc Try.prog W 0 (fun _ => true) true Try.f7.params.toList args.toList ds p := hA0
  rw [Try.params7] at hA hval
  obtain ⟨v0, vs0, d0, ds0, p0, q0, hargs, rfl, rfl, h0, r0⟩ := trodAll_cons hA
  obtain ⟨rfl, rfl, rfl⟩ := trodAll_nil r0
  obtain rfl : args = #[v0] := by cases args; simp_all
  obtain ⟨rfl, rfl⟩ := trodVars_none hV
  have k0 := h0
  have lt0 : ∀ x ∈ p0, x.block < W.heap.size := by obtain ⟨m, hm⟩ := k0; exact DataW.trod_lt m _ _ _ hm
  obtain ⟨a0, len0, cap0, rfl⟩ := okWide_slice Try.underlying33 (hval 0 33 v0 rfl rfl)
  obtain ⟨w0, hc0⟩ := open_bytes Try.underlying33 Try.underlying5 (by kernel_rfl) h0
  clear hA0 hval0
  refine (walk a0 len0 cap0 W w0 hc0).mono fun e W' ⟨he, bel⟩ => ?_
  subst he
  exact ⟨_, rfl, _, _, _, [], _, [], hW', trodAll_mk1 (shut_bool Try.underlying4 _), (trodAll_cons_mk (Below.trod laidOut (by kernel_rfl) (of_decide_eq_true (by kernel_rfl)) k0 bel lt0) trodAll_mk0), rfl, bel.frame _, fun h => by cases h⟩

theorem over : Rows.fnQueueLengthsMoreRow.holds Try.pinned (OpenSpec.ofChange Rows.fnQueueLengthsMoreSpec) :=
  OpenClaim.holds_of_wide 7 Try.f7 rfl rfl rfl rfl rfl rfl rfl ⟨rfl, rfl, rfl, rfl, rfl⟩ rfl rfl rfl rfl rfl (by kernel_rfl) Try.func7 (by kernel_rfl)
    (of_decide_eq_true (by kernel_rfl)) (by unfold Func.isWrapper; first | (rw [if_pos (by decide +kernel)]; kernel_rfl) | (rw [if_neg (by decide +kernel)]; exact ⟨rfl, rfl⟩))
    (fun os started H enc _ => lifted os started H enc)

theorem proved : Rows.FnQueueLengthsMoreSaid := over
end Go.Proofs.Ytlafbfphegmbaaa.FnQueueLengthsMore
