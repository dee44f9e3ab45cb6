/-
  The statement FnQueueLengthsGreen: queues are green all the time is best, red all the time is worst.
-/
import Derived.Test.YtlafbfphegmbaaaOpen
import Derived.Test.YtlafbfphegmbaaaDrList
import Derived.Test.YtlafbfphegmbaaaWaits
import Derived.Test.YtlafbfphegmbaaaQuLaw
import Derived.Test.YtlafbfphegmbaaaLit
namespace Go.Proofs.Ytlafbfphegmbaaa.FnQueueLengthsGreen
open Go.RowKit Go.ChangeShapes Go.WideShapes Go.ChangeAt Go.Proofs.Ytlafbfphegmbaaa
set_option linter.unusedVariables false

theorem small_of {ar : List Int} {gr : List Bool} (hv : validQ ar gr = true) : Small ar := by
  refine ⟨by have := validQ_len hv; omega, ?_⟩
  intro z hz
  obtain ⟨i, hi, rfl⟩ := List.getElem_of_mem hz
  have := validQ_few hv i
  rw [ga_at hi]
  omega

set_option maxHeartbeats 1600000 in
theorem walk (A : Option Addr) (len cap : Nat) (w : World) (h : Bytes w A len) (hc : len ≤ cap) :
    Calls Try.prog 6 #[.slice A len cap] w fun e w' => e = .returned (.bool true) ∧ Below w.heap.size w w' := by
  by_cases hl1 : 1048576 < len
  · go_enter Try.func6, Try.ntmps6
    go_wp2_with fail
    go_ret
    exact ⟨rfl, Below.refl _ _⟩
  go_enter Try.func6, Try.ntmps6
  go_wp2_with fail
  refine (drawQ_any _ A len cap h hc).mono ?_
  rintro e w1 ⟨ar, gr, A1, B1, c1, d1, rfl, ha, hb, hla, hlb, hsep, hB⟩
  replace ha := ha.rd
  replace hb := hb.rd
  have hz := hB.size
  have hQ : (queuesF ar gr).length ≤ 150 := by
    by_cases hv : validQ ar gr = true
    · have := validQ_len hv
      simp only [queuesF, hv, if_true, queuesTo_length]
      omega
    · simp [queuesF, hv]
  clear h hsep
  obtain ⟨qs, hqs⟩ : ∃ qs, qs = queuesF ar gr := ⟨_, rfl⟩
  have hI := fun w ha hb => iQueues_any ar gr A1 B1 c1 d1 w ha hb (by omega) (by omega)
  have hW := fun w ha hb => sQueues_any ar gr A1 B1 c1 d1 w ha hb (by omega) (by omega)
  rw [← hqs] at hQ hI hW
  go_wp2_with fail
  refine (hI _ ha hb).mono ?_
  rintro e w2 ⟨A2, c2, rfl, h2, b2⟩
  replace h2 := h2.rd
  replace ha := ha.below b2
  replace hb := hb.below b2
  replace hB := hB.trans (b2.mono hz)
  have hz2 := hB.size
  clear b2
  by_cases hq : qs = []
  · rw [hq] at h2 hW ⊢
    clear hq hQ hI hqs
    simp only [List.length_nil] at h2 hW ⊢
    go_wp2_with fail
    refine (hW _ ha hb).mono ?_
    rintro e w3 ⟨A3, c3, rfl, h3, b3⟩
    replace h3 := h3.rd
    replace ha := ha.below b3
    replace hb := hb.below b3
    replace h2 := h2.below b3
    replace hB := hB.trans (b3.mono hz2)
    have hz3 := hB.size
    clear b3
    go_wp2_with fail
    refine (equalInts_same [] A2 A3 c2 c3 _ h2 h3 (by decide)).mono ?_
    rintro e w4 ⟨rfl, b4⟩
    replace ha := ha.below b4
    replace hb := hb.below b4
    replace h2 := h2.below b4
    replace hB := hB.trans (b4.mono hz3)
    have hz4 := hB.size
    clear b4 h3
    go_wp2_with fail
    refine (hW _ ha hb).mono ?_
    rintro e w5 ⟨A5, c5, rfl, h5, b5⟩
    replace h5 := h5.rd
    replace h2 := h2.below b5
    replace hB := hB.trans (b5.mono hz4)
    have hz5 := hB.size
    clear b5
    go_wp2_with fail
    refine (equalInts_same [] A2 A5 c2 c5 _ h2 h5 (by decide)).mono ?_
    rintro e w6 ⟨rfl, b6⟩
    replace hB := hB.trans (b6.mono hz5)
    clear b6
    go_wp2_with fail
    go_ret
    exact ⟨rfl, hB⟩
  replace hq : ¬ qs.length = 0 := fun h => hq (List.eq_nil_of_length_eq_zero h)
  have hv : validQ ar gr = true := by
    by_cases hv : validQ ar gr = true
    · exact hv
    · exact absurd (by simp [hqs, queuesF, hv]) hq
  have hL : qs.length = ar.length := by simp only [hqs, queuesF, hv, if_true, queuesTo_length]
  have hA150 : ar.length ≤ 150 := by omega
  have hq1 : (((qs.length : Nat) : Int) == 0) = false := by simpa using fun h => hq (by simp [h])
  have hq2 : qs ≠ [] := fun h => hq (by simp [h])
  have hS := small_of hv
  have hf := validQ_few hv
  have hLg : ar.length = gr.length := (validQ_len hv).1
  have key : ∀ xs ys, xs = List.replicate gr.length true → ys = List.replicate gr.length false → (queuesF ar xs).length = ar.length ∧ (queuesF ar ys).length = ar.length ∧ ∀ k (h1 : k < qs.length) (h2 : k < (queuesF ar xs).length) (h3 : k < (queuesF ar ys).length) (h4 : k < ar.length), (queuesF ar xs)[k] ≤ qs[k] ∧ (queuesF ar ys)[k] = sumL (ar.take k) + ar[k] ∧ 0 ≤ ar[k] ∧ ar[k] ≤ 3 := by
    intro xs ys hx hy
    have v1 : validQ ar xs = true := by
      simp only [validQ, hx, List.length_replicate] at hv ⊢
      exact hv
    have v2 : validQ ar ys = true := by
      simp only [validQ, hy, List.length_replicate] at hv ⊢
      exact hv
    refine ⟨by simp only [queuesF, v1, if_true, queuesTo_length], by simp only [queuesF, v2, if_true, queuesTo_length], ?_⟩
    intro k h1 h2 h3 h4
    have e1 : qs[k] = qlen ar gr (k + 1) := by simp [hqs, queuesF, hv, queuesTo]
    have e2 : (queuesF ar xs)[k] = qlen ar xs (k + 1) := by simp [queuesF, v1, queuesTo]
    have e3 : (queuesF ar ys)[k] = qlen ar ys (k + 1) := by simp [queuesF, v2, queuesTo]
    have e4 := best_le ar gr hf (k + 1) gr.length (by omega)
    have e5 := worst_eq ar hf gr.length (k + 1) (by omega)
    rw [sumL_take ar k h4] at e5
    have e6 := hf k
    have e7 : ga ar k = ar[k] := (ga_at h4).symm
    rw [e1, e2, e3, hx, hy]
    omega
  have Key := Lib.hid key
  have HL := Lib.hid hL
  have hg150 : gr.length ≤ 150 := by omega
  have hn1 : qs.length ≤ ar.length := by omega
  obtain ⟨i0, hi0, hy0, hy1, hy2⟩ := info_parts info_Bool
  clear key hv hf hLg hqs hI hL
  go_wp2_with fail
  refine (hW _ ha hb).mono ?_
  rintro e w3 ⟨A3, c3, rfl, h3, b3⟩
  replace h3 := h3.rd
  replace ha := ha.below b3
  replace hb := hb.below b3
  replace h2 := h2.below b3
  replace hB := hB.trans (b3.mono hz2)
  have hz3 := hB.size
  clear b3
  go_wp2_with fail
  refine (equalInts_same (qs) A2 A3 c2 c3 _ h2 h3 (by omega)).mono ?_
  rintro e w4 ⟨rfl, b4⟩
  replace ha := ha.below b4
  replace hb := hb.below b4
  replace h2 := h2.below b4
  replace hB := hB.trans (b4.mono hz3)
  have hz4 := hB.size
  clear b4 h3
  have HB := Lib.hid hB
  have H2 := Lib.hid h2
  have Hb := Lib.hid hb
  have Ha := Lib.hid ha
  have h0 := (OwnL.of_cap (lo := w4.heap.size) fB (Blk.new w4 4 #[]) (Nat.le_refl _) rfl (by simp [maxLen])).o
  clear hB h2 ha hb hW
  go_wp2_with fail
  clear hq hq1 hq2
  go_loopw [6, 7] (fun v i wr => ∃ k : Nat, k ≤ gr.length ∧ i = .int .i64 k ∧ (∃ xs A6 c6, v = .slice A6 xs.length c6 ∧ OwnO fB wr w4.heap.size 4 A6 c6 xs ∧ xs = List.replicate k true) ∧ Below w4.heap.size w4 wr) (fun _ i _ => gr.length - (intOf i).toNat)
  case atStart => exact ⟨0, by omega, rfl, ⟨[], _, _, rfl, h0, rfl⟩, (Below.refl _ _).alloc (Nat.le_refl _) _⟩
  case round =>
    obtain ⟨k, hk, rfl, ⟨xs, A6, c6, rfl, ho, hxs⟩, hbel⟩ := hrel
    have hxk : xs.length ≤ k := by rw [hxs, List.length_replicate]; omega
    have Hxs := Lib.hid hxs
    have hlo := hbel.size
    clear h0 hxs
    by_cases hlt : k < gr.length
    · have Hbel := Lib.hid hbel
      have hol := ho.lt
      clear hbel
      go_wp2_with (at_builtin; refine wpList_pushO rfl (.tmp 46) (.tmp 47) 23 rfl i0 _ 1 Try.underlying23 hi0 hy0 hy1 hy2 rfl rfl (ho.alloc _) wr.heap.size _ rfl (cell_new _ _ _) rfl (by omega) (by omega) (by simp; omega) ?_; intro A3 c3 w3 ho3 hg3 hb3)
      have hbel2 := below_push hlo Hbel.out hol hg3
      go_roundw
      case rel => exact ⟨k + 1, by omega, by go_num, ⟨_, A3, c3, by simp, ho3, by rw [Hxs.out, List.replicate_succ', ]⟩, hbel2⟩
      case measure => simp [intOf]; omega
    · obtain rfl : k = gr.length := by omega
      have hr := ho.rd
      clear ho
      have hB := HB.out.trans (hbel.mono hz4)
      have h2 := H2.out.below hbel
      have ha := Ha.out.below hbel
      clear hbel
      have hz5 := hB.size
      obtain ⟨ys, hys⟩ : ∃ ys, ys = List.replicate gr.length false := ⟨_, rfl⟩
      obtain ⟨hT, hF, key⟩ := Key.out xs ys Hxs.out hys
      have hL := HL.out
      have Hys := Lib.hid hys
      have hT1 : (queuesF ar xs).length ≤ 150 := by omega
      have hF1 : (queuesF ar ys).length ≤ 150 := by omega
      have hT2 : qs.length ≤ (queuesF ar xs).length := by omega
      have hF2 : qs.length ≤ (queuesF ar ys).length := by omega
      have hYl := Lib.hid (show ys.length = gr.length by rw [hys, List.length_replicate])
      have Key2 := Lib.hid key
      clear hys key hT hF hL
      have hmk : ∀ W, (Instr.makeSlice 23 (.int .i64 ((gr.length : Nat) : Int)) (.int .i64 ((gr.length : Nat) : Int))).run Try.prog W = .ok (.slice (some ⟨W.heap.size, 0, none⟩) gr.length gr.length) (W.alloc (.cells (List.replicate gr.length (Value.bool false)).toArray 4)) := fun W => run_make_n (P := Try.prog) 23 4 i0 (Value.bool false) Try.underlying23 hi0 hy0 hy1 rfl .i64 .i64 gr.length gr.length (Nat.le_refl _) (by omega) (by omega) W
      go_wp2_with fail
      refine (iQueues_any ar xs A1 A6 c1 c6 _ ha hr (by omega) (by omega)).mono ?_
      rintro e w6 ⟨A8, c8, rfl, h8, b8⟩
      replace h8 := h8.rd
      replace ha := ha.below b8
      replace h2 := h2.below b8
      replace hB := hB.trans (b8.mono hz5)
      have hz6 := hB.size
      clear b8 hr
      have rY : RdL fB (w6.alloc (.cells (List.replicate gr.length (Value.bool false)).toArray 4)) (some ⟨w6.heap.size, 0, none⟩) ys := by
        have := RdL.new fB w6 4 ys
        rwa [show (ys.map fB) = List.replicate gr.length (Value.bool false) by rw [Hys.out, List.map_replicate]] at this
      have hW := iQueues_any ar ys A1 (some ⟨w6.heap.size, 0, none⟩) c1 gr.length _ (ha.alloc _) rY (by omega) (by rw [hYl.out]; omega)
      rw [hYl.out] at hW
      have hB7 := hB.alloc hz6 (.cells (List.replicate gr.length (Value.bool false)).toArray 4)
      clear rY
      go_wp2_with fail
      refine hW.mono ?_
      rintro e w7 ⟨A9, c9, rfl, h9, b9⟩
      replace h9 := h9.rd
      replace ha := (ha.alloc _).below b9
      replace h2 := (h2.alloc _).below b9
      replace h8 := (h8.alloc _).below b9
      replace hB := hB7.trans (b9.mono (by simp; omega))
      have hz7 := hB.size
      clear b9 hW hB7 hmk hi0 hy0 hy1 hy2
      go_wp2_with fail
      go_loopw [10, 11] (fun n i wr => ∃ k : Nat, k ≤ qs.length ∧ i = .int .i64 k ∧ n = .int .i64 (sumL (ar.take k)) ∧ ∃ m, wr = w7.drewN m) (fun _ i _ => qs.length - (intOf i).toNat)
      case atStart => exact ⟨0, Nat.zero_le _, rfl, by simp [sumL], 0, rfl⟩
      case round =>
        clear hz hz2 hz3 hz4 hz5 hz6 hz7 hla hlb hl1 hc hlo hxk
        obtain ⟨k, hk, rfl, rfl, m, rfl⟩ := hrel
        by_cases hlt : k < qs.length
        · have hlta : k < ar.length := by omega
          have hlt8 : k < (queuesF ar xs).length := by omega
          have hlt9 : k < (queuesF ar ys).length := by omega
          obtain ⟨k1, k2, k3, k4⟩ := Key2.out k hlt hlt8 hlt9 hlta
          have hs1 := sumL_small ar hS k (by omega)
          have hst := Lib.hid (sumL_take ar k hlta)
          obtain ⟨b1, o1, rfl, hc1⟩ := ha.at hlta
          obtain ⟨b2, o2, rfl, hc2⟩ := h2.at hlt
          obtain ⟨b8, o8, rfl, hc8⟩ := h8.at hlt8
          obtain ⟨b9, o9, rfl, hc9⟩ := h9.at hlt9
          rw [k2] at hc9
          have Hh := Lib.hid ha
          clear ha h2 h8 h9 k2
          generalize ar[k] = x at hc1 hc9 k3 k4 hst
          generalize qs[k] = q at hc2 k1
          generalize (queuesF ar xs)[k] = y at hc8 k1
          simp only [fI] at hc1 hc2 hc8 hc9
          have f1 : decide ((((queuesF ar xs).length : Nat) : Int) ≤ (k : Int)) = false := by simp; omega
          have f2 : decide ((((queuesF ar ys).length : Nat) : Int) ≤ (k : Int)) = false := by simp; omega
          have f3 : decide (q < y) = false := by simp; omega
          clear hT1 hF1 hT2 hF2 hg150
          go_wp2_with fail
          go_quiet (fail)
          go_wp2_with fail
          go_roundw
          case rel => exact ⟨k + 1, by omega, by go_num, by rw [hst.out], m + nq, rfl⟩
          case measure => simp [intOf]; omega
        · go_wp2_with fail
          go_ret
          exact ⟨rfl, below_drewN hB _⟩

set_option maxRecDepth 100000 in
theorem lifted (os : Os) (started : os.Started) (H : Type) (enc : TypeId × Value → H) :
    ReturnsInHanded {} Try.checked os 6 .any (Rows.fnQueueLengthsGreenSpec.pre6 enc Try.prog Try.f6 Rows.fnQueueLengthsGreenRow.domain false) (Rows.fnQueueLengthsGreenSpec.post enc Try.prog Try.f6 false true false false) := by
  refine returnsInHanded_of_change (C := Try.checked) own started (by kernel_rfl) Try.func6
    (ChangeSpec.witness6 (enc := enc) (C := Try.checked) false ⟨#[], #[.slice none 0 0], []⟩ 8 (by kernel_rfl) (by kernel_rfl) (by kernel_rfl) (by kernel_rfl)) ?_
  intro W base args ds gs before hval0 hW hcnd _
  have hval : ∀ (j : Nat) t v, Try.f6.params[j]? = some t → args[j]? = some v → Value.okWide Try.prog W .any base t v := hval0
  have hW' := hW
  obtain ⟨p, q, hA0, hV, rfl, hfz, hnd⟩ := hW
  have hA : DataW.TrodAll enc Try.prog W 0 (fun _ => true) true Try.f6.params.toList args.toList ds p := hA0
  rw [Try.params6] at hA hval
  obtain ⟨v0, vs0, d0, ds0, p0, q0, hargs, rfl, rfl, h0, r0⟩ := trodAll_cons hA
  obtain ⟨rfl, rfl, rfl⟩ := trodAll_nil r0
  obtain rfl : args = #[v0] := by cases args; simp_all
  obtain ⟨rfl, rfl⟩ := trodVars_none hV
  have k0 := h0
  have lt0 : ∀ x ∈ p0, x.block < W.heap.size := by obtain ⟨m, hm⟩ := k0; exact DataW.trod_lt m _ _ _ hm
  obtain ⟨a0, len0, cap0, rfl⟩ := okWide_slice Try.underlying33 (hval 0 33 v0 rfl rfl)
  obtain ⟨w0, hc0⟩ := open_bytes Try.underlying33 Try.underlying5 (by kernel_rfl) h0
  clear hA0 hval0
  refine (walk a0 len0 cap0 W w0 hc0).mono fun e W' ⟨he, bel⟩ => ?_
  subst he
  exact ⟨_, rfl, _, _, _, [], _, [], hW', trodAll_mk1 (shut_bool Try.underlying4 _), (trodAll_cons_mk (Below.trod laidOut (by kernel_rfl) (of_decide_eq_true (by kernel_rfl)) k0 bel lt0) trodAll_mk0), rfl, bel.frame _, fun h => by cases h⟩

theorem over : Rows.fnQueueLengthsGreenRow.holds Try.pinned (OpenSpec.ofChange Rows.fnQueueLengthsGreenSpec) :=
  OpenClaim.holds_of_wide 6 Try.f6 rfl rfl rfl rfl rfl rfl rfl ⟨rfl, rfl, rfl, rfl, rfl⟩ rfl rfl rfl rfl rfl (by kernel_rfl) Try.func6 (by kernel_rfl)
    (of_decide_eq_true (by kernel_rfl)) (by unfold Func.isWrapper; first | (rw [if_pos (by decide +kernel)]; kernel_rfl) | (rw [if_neg (by decide +kernel)]; exact ⟨rfl, rfl⟩))
    (fun os started H enc _ => lifted os started H enc)

theorem proved : Rows.FnQueueLengthsGreenSaid := over
end Go.Proofs.Ytlafbfphegmbaaa.FnQueueLengthsGreen
