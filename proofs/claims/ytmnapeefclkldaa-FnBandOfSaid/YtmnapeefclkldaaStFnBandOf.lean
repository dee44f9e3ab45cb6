/-
  The statement FnBandOf: bands count seconds.
-/
import Derived.Test.YtmnapeefclkldaaStFn
namespace Go.Proofs.Ytmnapeefclkldaa.FnBandOf
open Go.RowKit Go.ChangeShapes Go.WideShapes Go.ChangeAt Go.Proofs.Ytmnapeefclkldaa
set_option linter.unusedVariables false

set_option maxHeartbeats 6400000 in
theorem walk (A : Option Addr) (len cap : Nat) (w : World) (h : Bytes w A len) (hc : len ≤ cap) :
    Calls Try.prog 11 #[.slice A len cap] w fun e w' => e = .returned (.bool true) ∧ Below w.heap.size w w' := by
  by_cases hl1 : 1048576 < len
  · go_enter Try.func11, Try.ntmps11
    go_wp2_with fail
    go_ret
    exact ⟨rfl, Below.refl _ _⟩
  go_enter Try.func11, Try.ntmps11
  go_wp2_with fail
  refine (drawB_any _ A len cap h hc).mono ?_
  rintro e w1 ⟨s, os, G, T, O, c, d, f, rfl, ⟨hs, lg, lt, nG, nT, cG, cT⟩, ho, nO, cO, lo, v1⟩
  have hB := v1
  have bs := Blk.new w1 27 (strC s G T c d)
  replace hs := hs.alloc (.cells (strC s G T c d) 27)
  replace ho := ho.alloc (.cells (strC s G T c d) 27)
  replace hB := hB.alloc hB.size (.cells (strC s G T c d) 27)
  have hgs0 : w.heap.size ≤ w1.heap.size := v1.size
  clear v1
  clear h
  cases hv : validO s os with
  | false =>
    have Hn := Lib.hid (show (-1 : Int) = bandF s os by simp [bandF, hv])
    clear hv
    go_wp2_with fail
    generalize w1.alloc (.cells (strC s G T c d) 27) = wb at *
    obtain ⟨gs, hgs⟩ : ∃ gs, gs = w1.heap.size := ⟨_, rfl⟩
    rw [← hgs] at bs hgs0
    simp only [← hgs]
    clear hgs
    refine (iBand_v s os (-1) Hn G T O c d f _ hs ho (by omega)).mono ?_
    rintro e w2 ⟨rfl, v2⟩
    replace bs := bs.below v2 bs.lt
    replace hs := hs.below v2
    replace ho := ho.below v2
    replace hB := hB.trans (v2.mono hB.size)
    clear v2
    obtain ⟨k0, k1, k2⟩ := loadS bs
    go_wp2_with fail
    refine (sBand_v s os (-1) Hn G T O c d f _ hs ho (by omega)).mono ?_
    rintro e w3 ⟨rfl, v3⟩
    replace bs := bs.below v3 bs.lt
    replace hs := hs.below v3
    replace ho := ho.below v3
    replace hB := hB.trans (v3.mono hB.size)
    clear v3
    clear k0 k1 k2
    obtain ⟨k0, k1, k2⟩ := loadS bs
    go_wp2_with fail
    refine (sBand_v s os (-1) Hn G T O c d f _ hs ho (by omega)).mono ?_
    rintro e w4 ⟨rfl, v4⟩
    replace bs := bs.below v4 bs.lt
    replace hs := hs.below v4
    replace ho := ho.below v4
    replace hB := hB.trans (v4.mono hB.size)
    clear v4
    clear k0 k1 k2
    go_wp2_with fail
    go_ret
    exact ⟨rfl, hB⟩
  | true =>
    have hg := validO_iff.mp hv
    obtain ⟨n, hn⟩ : ∃ n, n = bandF s os := ⟨_, rfl⟩
    have hnb := band_nonneg hg
    have hgr := fun i hi => band_green (i := i) hg hi
    rw [← hn] at hnb hgr
    have Hn := Lib.hid hn
    have Hgr := Lib.hid hgr
    have Hnn := Lib.hid (show bandN s os s.cy.toNat = n by rw [hn]; simp [bandF, hv])
    have hc1 := hg.g.c1
    have hc2 := hg.g.c2
    have hgr4 := hg.g.g2
    have Hp := Lib.hid (fun (k : Nat) (hk : (k : Int) ≤ 40) => show passF s os (k : Int) = passesF s os (k : Int) by simp [passesF, hv, inB]; omega)
    clear hn hgr hg hv
    go_wp2_with fail
    generalize w1.alloc (.cells (strC s G T c d) 27) = wb at *
    obtain ⟨gs, hgs⟩ : ∃ gs, gs = w1.heap.size := ⟨_, rfl⟩
    rw [← hgs] at bs hgs0
    simp only [← hgs]
    clear hgs
    refine (iBand_v s os n Hn G T O c d f _ hs ho (by omega)).mono ?_
    rintro e w2 ⟨rfl, v2⟩
    replace bs := bs.below v2 bs.lt
    replace hs := hs.below v2
    replace ho := ho.below v2
    replace hB := hB.trans (v2.mono hB.size)
    clear v2
    obtain ⟨k0, k1, k2⟩ := loadS bs
    go_wp2_with fail
    refine (sBand_v s os n Hn G T O c d f _ hs ho (by omega)).mono ?_
    rintro e w3 ⟨rfl, v3⟩
    replace bs := bs.below v3 bs.lt
    replace hs := hs.below v3
    replace ho := ho.below v3
    replace hB := hB.trans (v3.mono hB.size)
    clear v3
    clear k0 k1 k2
    obtain ⟨k0, k1, k2⟩ := loadS bs
    go_wp2_with fail
    clear k0 k1 k2
    go_loopw [6, 7] (fun vn vi wr => ∃ k : Nat, (k : Int) ≤ s.cy ∧ vi = .int .i64 k ∧ vn = .int .i64 (bandN s os k) ∧ Below w3.heap.size w3 wr) (fun _ vi _ => (s.cy - intOf vi).toNat)
    case atStart => exact ⟨0, by omega, rfl, rfl, Below.refl _ _⟩
    case round =>
      obtain ⟨k, hk, rfl, rfl, hb⟩ := hrel
      have bx2 := bs.below hb bs.lt
      obtain ⟨k0, k1, k2⟩ := loadS bx2
      have hbd := bandN_bd s os k
      by_cases hlt : (k : Int) < s.cy
      · have hsucc := Lib.hid (bandN_succ s os k)
        go_wp2_with fail
        refine (iPasses_v s os (passF s os (k : Int)) k (Lib.hid (Hp.out k (by omega))) G T O c d f _ (hs.below hb) (ho.below hb) (by omega)).mono ?_
        rintro e w4 ⟨rfl, v4⟩
        replace hb := hb.trans (v4.mono hb.size)
        clear v4 k0 k1 k2 bx2
        cases hp : passF s os (k : Int)
        · go_wp2_with fail
          go_roundw
          case rel => exact ⟨k + 1, by omega, by go_num, by rw [hsucc.out, hp]; simp, hb⟩
          case measure => simp [intOf]; omega
        · go_wp2_with fail
          go_roundw
          case rel => exact ⟨k + 1, by omega, by go_num, by rw [hsucc.out, hp]; simp, hb⟩
          case measure => simp [intOf]; omega
      · obtain rfl : k = s.cy.toNat := by omega
        rw [Hnn.out]
        go_wp2_with fail
        clear k0 k1 k2
        have hs5 := hs.below hb
        have hB5 := hB.trans (hb.mono hB.size)
        clear bs hs ho hB hb
        go_loopw [8] (fun vi wq => ∃ j : Nat, j ≤ s.gr.length ∧ vi = .int .i64 j ∧ ∃ m, wq = wr.drewN m) (fun vi _ => s.gr.length - (intOf vi).toNat)
        case atStart => exact ⟨0, Nat.zero_le _, rfl, 0, rfl⟩
        case round =>
          obtain ⟨j, hj, rfl, m, rfl⟩ := hrel
          obtain ⟨k0, k1, k2⟩ := loadS bx2
          by_cases hlt2 : j < s.gr.length
          · have hgj := Hgr.out j hlt2
            obtain ⟨b2, o2, rfl, hcj⟩ := hs5.hg.at hlt2
            rw [ga_at hlt2] at hcj
            simp only [fI] at hcj
            generalize ga s.gr j = y at *
            go_wp2_with fail
            go_roundw
            case rel => exact ⟨j + 1, by omega, by go_num, _, rfl⟩
            case measure => simp [intOf]; omega
          · go_wp2_with fail
            go_ret
            exact ⟨rfl, below_drewN hB5 _⟩

set_option maxRecDepth 100000 in
theorem lifted (os : Os) (started : os.Started) (H : Type) (enc : TypeId × Value → H) :
    ReturnsInHanded {} Try.checked os 11 .any (Rows.fnBandOfSpec.pre6 enc Try.prog Try.f11 Rows.fnBandOfRow.domain false) (Rows.fnBandOfSpec.post enc Try.prog Try.f11 false true false false) := by
  refine returnsInHanded_of_change (C := Try.checked) own started (by kernel_rfl) Try.func11
    (ChangeSpec.witness6 (enc := enc) (C := Try.checked) false ⟨#[], #[.slice none 0 0], []⟩ 8 (by kernel_rfl) (by kernel_rfl) (by kernel_rfl) (by kernel_rfl)) ?_
  intro W base args ds gs before hval0 hW hcnd _
  have hval : ∀ (j : Nat) t v, Try.f11.params[j]? = some t → args[j]? = some v → Value.okWide Try.prog W .any base t v := hval0
  have hW' := hW
  obtain ⟨p, q, hA0, hV, rfl, hfz, hnd⟩ := hW
  have hA : DataW.TrodAll enc Try.prog W 0 (fun _ => true) true Try.f11.params.toList args.toList ds p := hA0
  rw [Try.params11] at hA hval
  obtain ⟨v0, vs0, d0, ds0, p0, q0, hargs, rfl, rfl, h0, r0⟩ := trodAll_cons hA
  obtain ⟨rfl, rfl, rfl⟩ := trodAll_nil r0
  obtain rfl : args = #[v0] := by cases args; simp_all
  obtain ⟨rfl, rfl⟩ := trodVars_none hV
  have k0 := h0
  have lt0 : ∀ x ∈ p0, x.block < W.heap.size := by obtain ⟨m, hm⟩ := k0; exact DataW.trod_lt m _ _ _ hm
  obtain ⟨a0, len0, cap0, rfl⟩ := okWide_slice Try.underlying39 (hval 0 39 v0 rfl rfl)
  obtain ⟨w0, hc0⟩ := open_bytes Try.underlying39 Try.underlying5 (by kernel_rfl) h0
  clear hA0 hval0
  refine (walk a0 len0 cap0 W w0 hc0).mono fun e W' ⟨he, bel⟩ => ?_
  subst he
  exact ⟨_, rfl, _, _, _, [], _, [], hW', trodAll_mk1 (shut_bool Try.underlying4 _), (trodAll_cons_mk (Below.trod laidOut (by kernel_rfl) (of_decide_eq_true (by kernel_rfl)) k0 bel lt0) trodAll_mk0), rfl, bel.frame _, fun h => by cases h⟩

theorem over : Rows.fnBandOfRow.holds Try.pinned (OpenSpec.ofChange Rows.fnBandOfSpec) :=
  OpenClaim.holds_of_wide 11 Try.f11 rfl rfl rfl rfl rfl rfl rfl ⟨rfl, rfl, rfl, rfl, rfl⟩ rfl rfl rfl rfl rfl (by kernel_rfl) Try.func11 (by kernel_rfl)
    (of_decide_eq_true (by kernel_rfl)) (by unfold Func.isWrapper; first | (rw [if_pos (by decide +kernel)]; kernel_rfl) | (rw [if_neg (by decide +kernel)]; exact ⟨rfl, rfl⟩))
    (fun os started H enc _ => lifted os started H enc)

theorem proved : Rows.FnBandOfSaid := over
end Go.Proofs.Ytmnapeefclkldaa.FnBandOf
