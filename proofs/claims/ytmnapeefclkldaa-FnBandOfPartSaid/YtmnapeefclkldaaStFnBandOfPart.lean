/-
  The statement FnBandOfPart: shorter streets are easier.
-/
import Derived.Test.YtmnapeefclkldaaStFn
namespace Go.Proofs.Ytmnapeefclkldaa.FnBandOfPart
open Go.RowKit Go.ChangeShapes Go.WideShapes Go.ChangeAt Go.Proofs.Ytmnapeefclkldaa
set_option linter.unusedVariables false

set_option maxHeartbeats 6400000 in
theorem walk (A : Option Addr) (len cap : Nat) (w : World) (h : Bytes w A len) (hc : len ≤ cap) :
    Calls Try.prog 9 #[.slice A len cap] w fun e w' => e = .returned (.bool true) ∧ Below w.heap.size w w' := by
  by_cases hl1 : 1048576 < len
  · go_enter Try.func9, Try.ntmps9
    go_wp2_with fail
    go_ret
    exact ⟨rfl, Below.refl _ _⟩
  go_enter Try.func9, Try.ntmps9
  go_wp2_with fail
  refine (drawB_any _ A len cap h hc).mono ?_
  rintro e w1 ⟨s, os, G, T, O, c, d, f, rfl, ⟨hs, lg, lt, nG, nT, cG, cT⟩, ho, nO, cO, lo, v1⟩
  have hB := v1
  have bs := Blk.new w1 27 (strC s G T c d)
  replace hs := hs.alloc (.cells (strC s G T c d) 27)
  replace ho := ho.alloc (.cells (strC s G T c d) 27)
  replace hB := hB.alloc hB.size (.cells (strC s G T c d) 27)
  have hgs0 : w.heap.size ≤ w1.heap.size := v1.size
  clear v1
  clear h
  cases hv : validO s os with
  | false =>
    have Hn := Lib.hid (show (-1 : Int) = bandF s os by simp [bandF, hv])
    clear hv
    go_wp2_with fail
    generalize w1.alloc (.cells (strC s G T c d) 27) = wb at *
    obtain ⟨gs, hgs⟩ : ∃ gs, gs = w1.heap.size := ⟨_, rfl⟩
    rw [← hgs] at bs hgs0
    simp only [← hgs]
    clear hgs
    refine (iBand_v s os (-1) Hn G T O c d f _ hs ho (by omega)).mono ?_
    rintro e w2 ⟨rfl, v2⟩
    replace bs := bs.below v2 bs.lt
    replace hs := hs.below v2
    replace ho := ho.below v2
    replace hB := hB.trans (v2.mono hB.size)
    clear v2
    obtain ⟨k0, k1, k2⟩ := loadS bs
    go_wp2_with fail
    refine (sBand_v s os (-1) Hn G T O c d f _ hs ho (by omega)).mono ?_
    rintro e w3 ⟨rfl, v3⟩
    replace bs := bs.below v3 bs.lt
    replace hs := hs.below v3
    replace ho := ho.below v3
    replace hB := hB.trans (v3.mono hB.size)
    clear v3
    clear k0 k1 k2
    obtain ⟨k0, k1, k2⟩ := loadS bs
    go_wp2_with fail
    refine (sBand_v s os (-1) Hn G T O c d f _ hs ho (by omega)).mono ?_
    rintro e w4 ⟨rfl, v4⟩
    replace bs := bs.below v4 bs.lt
    replace hs := hs.below v4
    replace ho := ho.below v4
    replace hB := hB.trans (v4.mono hB.size)
    clear v4
    clear k0 k1 k2
    go_wp2_with fail
    go_ret
    exact ⟨rfl, hB⟩
  | true =>
    have hg := validO_iff.mp hv
    obtain ⟨n, hn⟩ : ∃ n, n = bandF s os := ⟨_, rfl⟩
    have hnb := band_nonneg hg
    rw [← hn] at hnb
    have Hn := Lib.hid hn
    have hc1 := hg.g.c1
    have hc2 := hg.g.c2
    have hgr4 := hg.g.g2
    have hgr1 := hg.g.g1
    have hol4 : os.length ≤ 4 := by have := hg.ol; omega
    have Hg := Lib.hid hg
    have Hcut := Lib.hid (fun (k : Nat) (hk : k ≤ s.gr.length) (hk0 : 1 ≤ k) => show n ≤ bandF (cutS s k) (os.take k) from by rw [hn]; exact cut_band hg hk hk0)
    have htl := Lib.hid hg.g.tl
    have hol := Lib.hid hg.ol
    clear hn hg hv
    go_wp2_with fail
    generalize w1.alloc (.cells (strC s G T c d) 27) = wb at *
    obtain ⟨gs, hgs⟩ : ∃ gs, gs = w1.heap.size := ⟨_, rfl⟩
    rw [← hgs] at bs hgs0
    simp only [← hgs]
    clear hgs
    have hX := Below.refl wb.heap.size wb
    refine (iBand_v s os n Hn G T O c d f _ (hs.below hX) (ho.below hX) (by omega)).mono ?_
    rintro e w2 ⟨rfl, v2⟩
    replace hX := hX.trans (v2.mono hX.size)
    clear v2
    obtain ⟨k0, k1, k2⟩ := loadS (bs.below hX bs.lt)
    go_wp2_with fail
    refine (sBand_v s os n Hn G T O c d f _ (hs.below hX) (ho.below hX) (by omega)).mono ?_
    rintro e w3 ⟨rfl, v3⟩
    replace hX := hX.trans (v3.mono hX.size)
    clear v3
    clear k0 k1 k2
    by_cases hlt : s.gr.length < 2
    · skip
      obtain ⟨k0, k1, k2⟩ := loadS (bs.below hX bs.lt)
      go_wp2_with fail
      refine (sBand_v s os n Hn G T O c d f _ (hs.below hX) (ho.below hX) (by omega)).mono ?_
      rintro e w4 ⟨rfl, v4⟩
      replace hX := hX.trans (v4.mono hX.size)
      clear v4
      clear k0 k1 k2
      go_wp2_with fail
      go_ret
      exact ⟨rfl, hB.trans (hX.mono hB.size)⟩
    · skip
      obtain ⟨p, hp⟩ : ∃ p : Nat, (s.gr.length : Int) - 1 = (p : Int) := ⟨s.gr.length - 1, by omega⟩
      obtain ⟨q, hq⟩ : ∃ q : Nat, (p : Int) - 1 = (q : Int) := ⟨p - 1, by omega⟩
      have hpc : p ≤ c := by omega
      have hqd : q ≤ d := by have := htl.out; omega
      have hpf : p ≤ f := by have := hol.out; omega
      have hcut := Hcut.out p (by omega) (by omega)
      have hcall : ∀ W, RdS W s G T → RdL fI W O os → Calls Try.prog 28 #[.agg #[.int .i64 s.cy, .slice G p c, .slice T q d], .slice O p f] W fun e w' => e = .returned (.int .i64 (bandF (cutS s p) (os.take p))) ∧ Below W.heap.size W w' := by
        intro W h1 h2
        have := iBand_v (cutS s p) (os.take p) _ (Lib.hid rfl) G T O c d f W ⟨h1.hg.take _, h1.ht.take _, by simp [cutS]; omega, by simp [cutS]; have := htl.out; omega⟩ (h2.take _) (by simp; omega)
        simp only [strV, strC, cutS, List.length_take] at this
        rwa [show min p s.gr.length = p by omega, show min (p - 1) s.tr.length = q by have := htl.out; omega, show min p os.length = p by have := hol.out; omega] at this
      generalize bandF (cutS s p) (os.take p) = v at *
      have hs3 := hs.below hX
      have ho3 := ho.below hX
      have hB3 := hB.trans (hX.mono hB.size)
      clear hs ho hB Hcut htl hol
      obtain ⟨k0, k1, k2⟩ := loadS (bs.below hX bs.lt)
      go_wp2_with fail
      have bs3 := (bs.below hX bs.lt)
      clear k0 k1 k2 bs hX
      obtain ⟨q0, q1, q2⟩ := loadS bs3
      have k0 := Grow.cell q0
      have k1 := Grow.cell q1
      have k2 := Grow.cell q2
      clear q0 q1 q2 bs3
      refine wp_region_grow _ (by kernel_rfl) (by kernel_rfl) (Below.refl _ _) ?_
      repeat (go_big_quiet_step ((go_at_call 28; exact grow_of (hcall _ (hs3.below (Grow.h _)) (ho3.grow _)))))
      refine wpQuiet_nil ?_
      rintro _ ⟨z, rfl⟩
      go_wp2_with fail
      go_ret
      exact ⟨by simp, hB3.trans (z.h.mono hB3.size)⟩

set_option maxRecDepth 100000 in
theorem lifted (os : Os) (started : os.Started) (H : Type) (enc : TypeId × Value → H) :
    ReturnsInHanded {} Try.checked os 9 .any (Rows.fnBandOfPartSpec.pre6 enc Try.prog Try.f9 Rows.fnBandOfPartRow.domain false) (Rows.fnBandOfPartSpec.post enc Try.prog Try.f9 false true false false) := by
  refine returnsInHanded_of_change (C := Try.checked) own started (by kernel_rfl) Try.func9
    (ChangeSpec.witness6 (enc := enc) (C := Try.checked) false ⟨#[], #[.slice none 0 0], []⟩ 8 (by kernel_rfl) (by kernel_rfl) (by kernel_rfl) (by kernel_rfl)) ?_
  intro W base args ds gs before hval0 hW hcnd _
  have hval : ∀ (j : Nat) t v, Try.f9.params[j]? = some t → args[j]? = some v → Value.okWide Try.prog W .any base t v := hval0
  have hW' := hW
  obtain ⟨p, q, hA0, hV, rfl, hfz, hnd⟩ := hW
  have hA : DataW.TrodAll enc Try.prog W 0 (fun _ => true) true Try.f9.params.toList args.toList ds p := hA0
  rw [Try.params9] at hA hval
  obtain ⟨v0, vs0, d0, ds0, p0, q0, hargs, rfl, rfl, h0, r0⟩ := trodAll_cons hA
  obtain ⟨rfl, rfl, rfl⟩ := trodAll_nil r0
  obtain rfl : args = #[v0] := by cases args; simp_all
  obtain ⟨rfl, rfl⟩ := trodVars_none hV
  have k0 := h0
  have lt0 : ∀ x ∈ p0, x.block < W.heap.size := by obtain ⟨m, hm⟩ := k0; exact DataW.trod_lt m _ _ _ hm
  obtain ⟨a0, len0, cap0, rfl⟩ := okWide_slice Try.underlying39 (hval 0 39 v0 rfl rfl)
  obtain ⟨w0, hc0⟩ := open_bytes Try.underlying39 Try.underlying5 (by kernel_rfl) h0
  clear hA0 hval0
  refine (walk a0 len0 cap0 W w0 hc0).mono fun e W' ⟨he, bel⟩ => ?_
  subst he
  exact ⟨_, rfl, _, _, _, [], _, [], hW', trodAll_mk1 (shut_bool Try.underlying4 _), (trodAll_cons_mk (Below.trod laidOut (by kernel_rfl) (of_decide_eq_true (by kernel_rfl)) k0 bel lt0) trodAll_mk0), rfl, bel.frame _, fun h => by cases h⟩

theorem over : Rows.fnBandOfPartRow.holds Try.pinned (OpenSpec.ofChange Rows.fnBandOfPartSpec) :=
  OpenClaim.holds_of_wide 9 Try.f9 rfl rfl rfl rfl rfl rfl rfl ⟨rfl, rfl, rfl, rfl, rfl⟩ rfl rfl rfl rfl rfl (by kernel_rfl) Try.func9 (by kernel_rfl)
    (of_decide_eq_true (by kernel_rfl)) (by unfold Func.isWrapper; first | (rw [if_pos (by decide +kernel)]; kernel_rfl) | (rw [if_neg (by decide +kernel)]; exact ⟨rfl, rfl⟩))
    (fun os started H enc _ => lifted os started H enc)

theorem proved : Rows.FnBandOfPartSaid := over
end Go.Proofs.Ytmnapeefclkldaa.FnBandOfPart
