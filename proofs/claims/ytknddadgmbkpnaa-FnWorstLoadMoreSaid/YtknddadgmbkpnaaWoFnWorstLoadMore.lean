/-
  The statement FnWorstLoadMore: more green relieves.
-/
import Derived.Test.YtknddadgmbkpnaaOpen
import Derived.Test.YtknddadgmbkpnaaWoDraw
import Derived.Test.YtknddadgmbkpnaaWoLaw
namespace Go.Proofs.Ytknddadgmbkpnaa.FnWorstLoadMore
open Go.RowKit Go.ChangeShapes Go.WideShapes Go.ChangeAt Go.Proofs.Ytknddadgmbkpnaa
set_option linter.unusedVariables false

set_option maxHeartbeats 1600000 in
theorem walk (A : Option Addr) (len cap : Nat) (w : World) (h : Bytes w A len) (hc : len ≤ cap) :
    Calls Try.prog 5 #[.slice A len cap] w fun e w' => e = .returned (.bool true) ∧ Below w.heap.size w w' := by
  obtain ⟨i0, hi0, hz0, hz1, hz2⟩ := info_parts info_Int
  by_cases hl1 : 1048576 < len
  · go_enter Try.func5, Try.ntmps5
    go_wp2_with fail
    go_ret
    exact ⟨rfl, Below.refl _ _⟩
  go_enter Try.func5, Try.ntmps5
  go_wp2_with fail
  refine (drawW_any _ A len cap h hc).mono ?_
  rintro e w1 ⟨de, gr, A1, B1, c1, d1, rfl, ha, hb, hla, hlb, hB⟩
  have hz := hB.size
  clear h
  cases hv : validW de gr with
  | false =>
    go_wp2_with fail
    refine (iWorst_no de gr A1 B1 c1 d1 _ ha hb (by omega) (by omega) hv).mono ?_
    rintro e w2 ⟨rfl, b2⟩
    replace ha := ha.below b2
    replace hb := hb.below b2
    replace hB := hB.trans (b2.mono hz)
    have hz2 := hB.size
    clear b2
    go_wp2_with fail
    refine (sWorst_no de gr A1 B1 c1 d1 _ ha hb (by omega) (by omega) hv).mono ?_
    rintro e w3 ⟨rfl, b3⟩
    replace hB := hB.trans (b3.mono hz2)
    clear b3
    go_wp2_with fail
    go_ret
    exact ⟨rfl, hB⟩
  | true =>
    have hI := fun w ha hb => iWorst_yes de gr A1 B1 c1 d1 w ha hb hv
    have hS := fun w ha hb => sWorst_yes de gr A1 B1 c1 d1 w ha hb hv
    have Hv := Lib.hid hv
    obtain ⟨hn, hlg, hd, hg⟩ := validW_parts hv
    have hgp : ∀ i, i < de.length → 1 ≤ ga gr i ∧ ga gr i ≤ 180 := fun i hi => by
      have := allB_at hg (k := i) (by omega)
      rwa [ga_at (by omega)] at this
    have hw := wl_le de gr de.length de.length (by omega) (Nat.le_refl _)
    have hmore := Lib.hid (wl_more hv)
    obtain ⟨a, haw⟩ : ∃ a, a = ga de (wl de gr de.length) := ⟨_, rfl⟩
    obtain ⟨b, hbw⟩ : ∃ b, b = ga gr (wl de gr de.length) := ⟨_, rfl⟩
    have hb1 := hgp _ hw
    rw [← hbw] at hb1
    rw [← haw, ← hbw] at hI hS
    have Ha := Lib.hid haw
    have Hb := Lib.hid hbw
    have Hlg := Lib.hid hlg
    have hl1 : de.length ≤ gr.length := by omega
    have hl2 : gr.length ≤ de.length := by omega
    have hb2 : decide (b ≤ 0) = false := by simp; omega
    have Hd := Lib.hid hd
    clear haw hbw hlg hv hd hg hgp
    go_wp2_with fail
    refine (hI _ ha hb).mono ?_
    rintro e w2 ⟨rfl, b2⟩
    replace ha := ha.below b2
    replace hb := hb.below b2
    replace hB := hB.trans (b2.mono hz)
    have hs2 := hB.size
    clear b2 hI
    go_wp2_with fail
    refine (hS _ ha hb).mono ?_
    rintro e w3 ⟨rfl, b3⟩
    replace ha := ha.below b3
    replace hb := hb.below b3
    replace hB := hB.trans (b3.mono hs2)
    have hz3 := hB.size
    clear b3 hS
    have hmo := (OwnL.of_cap (lo := w3.heap.size) fI (Blk.new w3 3 #[]) (Nat.le_refl _) rfl (by simp [maxLen])).o
    go_wp2_with fail
    go_loopw [9, 10] (fun v9 i wr => ∃ k : Nat, k ≤ gr.length ∧ i = .int .i64 k ∧ (∃ xs A9 c9, v9 = .slice A9 xs.length c9 ∧ OwnO fI wr w3.heap.size 3 A9 c9 xs ∧ xs = (gr.take k).map (· + 1)) ∧ (∀ z ∈ gr.take k, z ≠ 180) ∧ Below w3.heap.size w3 wr) (fun _ i _ => gr.length - (intOf i).toNat)
    case atStart => exact ⟨0, Nat.zero_le _, rfl, ⟨[], _, _, rfl, hmo, by simp⟩, by simp, (Below.refl _ _).alloc (Nat.le_refl _) _⟩
    case round =>
      clear hmo
      obtain ⟨k, hk, rfl, ⟨xs, A9, c9, rfl, ho, hxs⟩, hne, hbel⟩ := hrel
      have hszr := hbel.size
      have Hxs := Lib.hid hxs
      have hxl : xs.length ≤ k := by rw [hxs]; simp; omega
      clear hxs
      by_cases hlt : k < gr.length
      · obtain ⟨bb, oo, rfl, hcx⟩ := (hb.below hbel).at hlt
        have hmx := Lib.hid (show gr.take (k + 1) = gr.take k ++ [gr[k]] from List.take_succ_eq_append_getElem hlt)
        have Hne := Lib.hid hne
        have hxb : 1 ≤ gr[k] ∧ gr[k] ≤ 180 := by
          have := allB_at (validW_parts Hv.out).2.2.2 hlt
          exact this
        clear hne ha hb
        generalize gr[k] = x at hcx hmx hxb
        obtain ⟨hx1, hx2⟩ := hxb
        simp only [fI] at hcx
        by_cases hx : x = 180
        · have hx' : (x == 180) = true := by simpa using hx
          clear hx
          go_wp2_with fail
          go_ret
          exact ⟨rfl, hB.trans (hbel.mono hz3)⟩
        · have hx' : (x == 180) = false := by simpa using hx
          have hN := Lib.hid (show ∀ z ∈ gr.take (k + 1), z ≠ 180 from fun z hz => by
            rw [hmx.out] at hz
            rcases List.mem_append.mp hz with hz | hz
            · exact Hne.out z hz
            · simp at hz; rw [hz]; exact hx)
          have hol := ho.lt
          clear hx
          go_wp2_with (at_builtin; refine wpList_pushO rfl (.tmp 65) (.tmp 71) 22 rfl i0 _ 8 Try.underlying22 hi0 hz0 hz1 hz2 rfl rfl (ho.alloc _) wr.heap.size _ rfl (cell_new _ _ _) rfl (by omega) (by omega) (by simp; omega) ?_; intro A3 c3 w4 ho3 hg3 hb3)
          have hbel3 := below_push hszr hbel hol hg3
          go_roundw
          case rel => exact ⟨k + 1, by omega, by go_num, ⟨_, A3, c3, by simp, ho3, by rw [hmx.out, List.map_append, ← Hxs.out]; rfl⟩, hN.out, hbel3⟩
          case measure => simp [intOf]; omega
      · obtain rfl : k = gr.length := by omega
        rw [List.take_length] at hne
        have hx2 := Hxs.out
        rw [List.take_length] at hx2
        have hvm := validW_up Hv.out hne
        have hxl2 : gr.length ≤ xs.length := by rw [hx2, List.length_map]; exact Nat.le_refl _
        rw [← hx2] at hvm
        have hM := fun w ha hb => iWorst_yes de xs A1 A9 c1 c9 w ha hb hvm
        have hwm := wl_le de xs de.length de.length (by omega) (Nat.le_refl _)
        have hj := hmore.out _ hwm
        rw [← Ha.out, ← Hb.out] at hj
        have hge : ga xs (wl de xs de.length) = ga gr (wl de xs de.length) + 1 := by
          have h9 := ga_up (gr := gr) (j := wl de xs de.length) (by omega)
          rw [← hx2] at h9
          exact h9
        rw [← hge] at hj
        obtain ⟨p1, p2⟩ := round_facts (validW_parts Hv.out).2.2.1 (validW_parts Hv.out).2.2.2 (i := wl de xs de.length) (j := wl de gr de.length) hwm (by omega)
        obtain ⟨p3, p4⟩ := round_facts (validW_parts Hv.out).2.2.1 (validW_parts hvm).2.2.2 (i := wl de gr de.length) (j := wl de xs de.length) hw (by omega)
        rw [← Ha.out] at p3 p4
        rw [← Hb.out] at p1 p2
        have hdp := allB_at (validW_parts hvm).2.2.2 (k := wl de xs de.length) (by omega)
        rw [ga_at (by omega)] at hdp
        generalize ga de (wl de xs de.length) = c at hM hj p1 p2
        generalize ga xs (wl de xs de.length) = d at hM hj hdp p3 p4
        have ha2 := ha.below hbel
        have hd1 : decide (0 < d) = true := by simp; omega
        have hj1 : decide (c * b ≤ a * d) = true := by simpa using hj
        have hB2 := hB.trans (hbel.mono hz3)
        have hz4 := hB2.size
        have Hx := Lib.hid hx2
        clear hx2 hne hge hdp ha hb
        go_wp2_with fail
        refine (hM _ ha2 ho.rd).mono ?_
        rintro e w5 ⟨rfl, b5⟩
        replace hB2 := hB2.trans (b5.mono hz4)
        clear b5 hM
        go_wp2_with fail
        go_ret
        exact ⟨by first | rfl | simp [hd1, hj1], hB2⟩

set_option maxRecDepth 100000 in
theorem lifted (os : Os) (started : os.Started) (H : Type) (enc : TypeId × Value → H) :
    ReturnsInHanded {} Try.checked os 5 .any (Rows.fnWorstLoadMoreSpec.pre6 enc Try.prog Try.f5 Rows.fnWorstLoadMoreRow.domain false) (Rows.fnWorstLoadMoreSpec.post enc Try.prog Try.f5 false true false false) := by
  refine returnsInHanded_of_change (C := Try.checked) own started (by kernel_rfl) Try.func5
    (ChangeSpec.witness6 (enc := enc) (C := Try.checked) false ⟨#[], #[.slice none 0 0], []⟩ 8 (by kernel_rfl) (by kernel_rfl) (by kernel_rfl) (by kernel_rfl)) ?_
  intro W base args ds gs before hval0 hW hcnd _
  have hval : ∀ (j : Nat) t v, Try.f5.params[j]? = some t → args[j]? = some v → Value.okWide Try.prog W .any base t v := hval0
  have hW' := hW
  obtain ⟨p, q, hA0, hV, rfl, hfz, hnd⟩ := hW
  have hA : DataW.TrodAll enc Try.prog W 0 (fun _ => true) true Try.f5.params.toList args.toList ds p := hA0
  rw [Try.params5] at hA hval
  obtain ⟨v0, vs0, d0, ds0, p0, q0, hargs, rfl, rfl, h0, r0⟩ := trodAll_cons hA
  obtain ⟨rfl, rfl, rfl⟩ := trodAll_nil r0
  obtain rfl : args = #[v0] := by cases args; simp_all
  obtain ⟨rfl, rfl⟩ := trodVars_none hV
  have k0 := h0
  have lt0 : ∀ x ∈ p0, x.block < W.heap.size := by obtain ⟨m, hm⟩ := k0; exact DataW.trod_lt m _ _ _ hm
  obtain ⟨a0, len0, cap0, rfl⟩ := okWide_slice Try.underlying27 (hval 0 27 v0 rfl rfl)
  obtain ⟨w0, hc0⟩ := open_bytes Try.underlying27 Try.underlying5 (by kernel_rfl) h0
  clear hA0 hval0
  refine (walk a0 len0 cap0 W w0 hc0).mono fun e W' ⟨he, bel⟩ => ?_
  subst he
  exact ⟨_, rfl, _, _, _, [], _, [], hW', trodAll_mk1 (shut_bool Try.underlying4 _), (trodAll_cons_mk (Below.trod laidOut (by kernel_rfl) (of_decide_eq_true (by kernel_rfl)) k0 bel lt0) trodAll_mk0), rfl, bel.frame _, fun h => by cases h⟩

theorem over : Rows.fnWorstLoadMoreRow.holds Try.pinned (OpenSpec.ofChange Rows.fnWorstLoadMoreSpec) :=
  OpenClaim.holds_of_wide 5 Try.f5 rfl rfl rfl rfl rfl rfl rfl ⟨rfl, rfl, rfl, rfl, rfl⟩ rfl rfl rfl rfl rfl (by kernel_rfl) Try.func5 (by kernel_rfl)
    (of_decide_eq_true (by kernel_rfl)) (by unfold Func.isWrapper; first | (rw [if_pos (by decide +kernel)]; kernel_rfl) | (rw [if_neg (by decide +kernel)]; exact ⟨rfl, rfl⟩))
    (fun os started H enc _ => lifted os started H enc)

theorem proved : Rows.FnWorstLoadMoreSaid := over
end Go.Proofs.Ytknddadgmbkpnaa.FnWorstLoadMore
