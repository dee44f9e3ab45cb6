/-
  The statement FnValidActor: controllers stay valid.
-/
import Derived.Test.YtoadkefajobgnaaOpen
import Derived.Test.YtoadkefajobgnaaAcStepA
import Derived.Test.YtoadkefajobgnaaAcDraw2
import Derived.Test.YtoadkefajobgnaaAcLaw
namespace Go.Proofs.Ytoadkefajobgnaa.FnValidActor
open Go.RowKit Go.ChangeShapes Go.WideShapes Go.ChangeAt Go.Proofs.Ytoadkefajobgnaa
set_option linter.unusedVariables false

set_option maxHeartbeats 3200000 in
theorem walk (A : Option Addr) (len cap : Nat) (w : World) (h : Bytes w A len) (hc : len ≤ cap) :
    Calls Try.prog 5 #[.slice A len cap] w fun e w' => e = .returned (.bool true) ∧ Below w.heap.size w w' := by
  obtain ⟨i0, hi0, hz0, hz1, hz2⟩ := info_parts info_Bool
  by_cases hl1 : 1048576 < len
  · go_enter Try.func5, Try.ntmps5
    go_wp2_with fail
    go_ret
    exact ⟨rfl, Below.refl _ _⟩
  go_enter Try.func5, Try.ntmps5
  go_wp2_with fail
  refine (drawValidActor_any _ A len cap h hc).mono ?_
  rintro e w1 ⟨a, A1, c1, rfl, ⟨ha1, ha2, ha3⟩, ho1, hB⟩
  clear h
  go_wp2_with fail
  have ba := Blk.new w1 27 (acC a A1 c1)
  replace ho1 := ho1.alloc (.cells (acC a A1 c1) 27)
  replace hB := hB.alloc hB.size (.cells (acC a A1 c1) 27)
  generalize w1.alloc (.cells (acC a A1 c1) 27) = w2 at *
  generalize w1.heap.size = ga at *
  refine (iValidA_any a A1 c1 _).mono ?_
  rintro e w3 ⟨rfl, v0⟩
  replace ba := ba.below v0 ba.lt
  replace ho1 := ho1.below v0
  replace hB := hB.trans (v0.mono hB.size)
  clear v0
  obtain ⟨a0, a1, a2, a3, a4, a5⟩ := loadT ba
  go_wp2_with fail
  refine (sValidA2_any a A1 c1 _).mono ?_
  rintro e w4 ⟨rfl, v0⟩
  replace ba := ba.below v0 ba.lt
  replace ho1 := ho1.below v0
  replace hB := hB.trans (v0.mono hB.size)
  clear v0 a0 a1 a2 a3 a4 a5
  obtain ⟨a0, a1, a2, a3, a4, a5⟩ := loadT ba
  cases hv : validA a with
  | false =>
    go_wp2_with fail
    refine (sValidA2_any a A1 c1 _).mono ?_
    rw [hv]
    rintro e w5 ⟨rfl, v0⟩
    replace hB := hB.trans (v0.mono hB.size)
    clear v0
    go_wp2_with fail
    go_ret
    exact ⟨rfl, hB⟩
  | true =>
    have hg := validA_iff.mp hv
    have hst := hg.wa
    have hst5 := hg.st
    obtain ⟨n, hn⟩ : ∃ n, n = a.wa.length := ⟨_, rfl⟩
    have hn1 : 1 ≤ n := by omega
    have hn5 : n ≤ 5 := by omega
    have hnst : (n : Int) = a.st := by omega
    have hln : (noneL n).length = n := List.length_replicate
    have hla : (allL n).length = n := List.length_replicate
    have g1 := step_good (cars := noneL n) hg (by rw [hln, hn])
    have g2 := step_good (cars := allL n) hg (by rw [hla, hn])
    have s1 : validA (stepG a (noneL n)) = true := by rw [stepG, if_pos (okA_of hg (by rw [hln, hn]))]; exact validA_iff.mpr g1
    have s2 : validA (stepG a (allL n)) = true := by rw [stepG, if_pos (okA_of hg (by rw [hla, hn]))]; exact validA_iff.mpr g2
    have hmk : ∀ W, (Instr.makeSlice 22 (.int .i64 ((n : Nat) : Int)) (.int .i64 ((n : Nat) : Int))).run Try.prog W = .ok (.slice (some ⟨W.heap.size, 0, none⟩) n n) (W.alloc (.cells (List.replicate n (Value.bool false)).toArray 4)) := by
      exact fun W => run_make_n (P := Try.prog) 22 4 i0 (Value.bool false) Try.underlying22 hi0 hz0 hz1 rfl .i64 .i64 n n (Nat.le_refl _) (by omega) (by omega) W
    have hon : OwnO fB (w4.alloc (.cells (Array.replicate n (Value.bool false)) 4)) w4.heap.size 4 (some ⟨w4.heap.size, 0, none⟩) n (noneL n) := by
      have := (OwnL.of_blk (xs := noneL n) (lo := w4.heap.size) (f := fB) (w := w4.alloc (.cells (Array.replicate n (Value.bool false)) 4)) (g := w4.heap.size) (e := 4) (by simpa [noneL] using Blk.new w4 4 (Array.replicate n (Value.bool false))) (Nat.le_refl _) (by simp [noneL, maxLen]; omega)).o
      simpa [noneL] using this
    have S1 := Lib.hid s1
    have S2 := Lib.hid s2
    have Hnst := Lib.hid hnst
    have Hln := Lib.hid hln
    have Hla := Lib.hid hla
    rw [← Hnst.out] at a0
    replace ba := ba.alloc (.cells (Array.replicate n (Value.bool false)) 4)
    replace ho1 := ho1.alloc (.cells (Array.replicate n (Value.bool false)) 4)
    replace hB := hB.alloc hB.size (.cells (Array.replicate n (Value.bool false)) 4)
    have hgal := ba.lt
    clear hg hst hn hnst hln hla g1 g2 s1 s2
    have hA := (OwnL.of_cap (lo := w4.heap.size + 1) (cap := 0) fB (Blk.new2 w4 (.cells (Array.replicate n (Value.bool false)) 4) 4 #[]) (Nat.le_refl _) rfl (by simp [maxLen])).o
    have h45 : (w4.alloc (.cells (Array.replicate n (Value.bool false)) 4)).heap.size ≤ w4.heap.size + 1 := by simp
    have h46 : w4.heap.size + 1 ≤ (w4.alloc (.cells (Array.replicate n (Value.bool false)) 4)).heap.size := by simp
    go_wp2_with fail
    generalize hwn : w4.alloc (.cells (Array.replicate n (Value.bool false)) 4) = w5 at *
    clear hwn a0 a1 a2 a3 a4 a5 hmk
    have hw5 := hB.size
    go_loopw [6, 7] (fun v6 i wr => ∃ k : Nat, k ≤ n ∧ i = .int .i64 k ∧ (∃ xs Ax cx, v6 = .slice Ax xs.length cx ∧ OwnO fB wr (w4.heap.size + 1) 4 Ax cx xs ∧ xs = allL k) ∧ Below w5.heap.size w5 wr) (fun _ i _ => n - (intOf i).toNat)
    case atStart => exact ⟨0, Nat.zero_le _, rfl, ⟨[], _, _, rfl, hA, rfl⟩, (Below.refl _ _).alloc (Nat.le_refl _) _⟩
    case round =>
      clear hA
      obtain ⟨k, hk, rfl, ⟨xs, Ax, cx, rfl, ho, hxs⟩, hbel⟩ := hrel
      have Hxs := Lib.hid hxs
      have hxl : xs.length ≤ k := by rw [hxs]; simp [allL]
      clear hxs
      have hbr := ba.below hbel ba.lt
      obtain ⟨a0, a1, a2, a3, a4, a5⟩ := loadT hbr
      rw [← Hnst.out] at a0
      have hszr := hbel.size
      by_cases hlt : k < n
      · have hol := ho.lt
        clear ba hbr ho1
        go_wp2_with (at_builtin; go_must (refine wpList_pushO rfl (.tmp 37) (.tmp 38) 22 rfl i0 _ 1 Try.underlying22 hi0 hz0 hz1 hz2 rfl rfl (ho.alloc _) wr.heap.size true rfl (cell_new _ _ _) rfl (by omega) (by omega) (by simp; omega) ?_); intro A3 c3 w6 ho3 hg3 hb3)
        have hbel3 := below_push hszr hbel (fun b hb => by have := hol b hb; omega) hg3
        go_roundw
        case rel => exact ⟨k + 1, by omega, by go_num, ⟨_, A3, c3, by simp, ho3, by rw [Hxs.out]; simp [allL, List.replicate_succ']⟩, hbel3⟩
        case measure => simp [intOf]; omega
      · obtain rfl : k = n := by omega
        have hx := Hxs.out
        subst hx
        replace hB := hB.trans (hbel.mono hw5)
        replace hon := hon.below hbel
        replace ho1 := ho1.below hbel
        clear hbel ba a0
        obtain ⟨a0, -, -, -, -, -⟩ := loadT hbr
        have hd : decide (((k : Nat) : Int) < a.st) = false := by have := Hnst.out; simp; omega
        have hs1 := fun W hr hc => iStepG_any a (noneL k) A1 (some ⟨w4.heap.size, 0, none⟩) c1 k W hr hc
        have hs2 := fun W hr hc => iStepG_any a (allL k) A1 Ax c1 cx W hr hc
        rw [Hln.out] at hs1
        have hs1' := hs1 wr ho1.rd hon.rd
        clear hs1
        go_wp2_with fail
        refine hs1'.mono ?_
        rintro e w7 ⟨A7, c7, rfl, h7, v0⟩
        replace hbr := hbr.below v0 hbr.lt
        replace ho := ho.below v0
        replace ho1 := ho1.below v0
        replace hB := hB.trans (v0.mono hB.size)
        clear v0 a0 a1 a2 a3 a4 a5 hs1'
        go_wp2_with fail
        refine (iValidA_any (stepG a (noneL k)) A7 c7 _).mono ?_
        rw [S1.out]
        rintro e w8 ⟨rfl, v0⟩
        replace hbr := hbr.below v0 hbr.lt
        replace ho := ho.below v0
        replace ho1 := ho1.below v0
        replace hB := hB.trans (v0.mono hB.size)
        clear v0
        obtain ⟨a0, a1, a2, a3, a4, a5⟩ := loadT hbr
        have hs2' := hs2 w8 ho1.rd ho.rd
        clear hs2
        go_wp2_with fail
        refine hs2'.mono ?_
        rintro e w9 ⟨A9, c9, rfl, h9, v0⟩
        replace hB := hB.trans (v0.mono hB.size)
        clear v0 hs2'
        go_wp2_with fail
        refine (iValidA_any (stepG a (allL k)) A9 c9 _).mono ?_
        rw [S2.out]
        rintro e w10 ⟨rfl, v0⟩
        replace hB := hB.trans (v0.mono hB.size)
        clear v0
        go_wp2_with fail
        go_ret
        exact ⟨rfl, hB⟩

set_option maxRecDepth 100000 in
theorem lifted (os : Os) (started : os.Started) (H : Type) (enc : TypeId × Value → H) :
    ReturnsInHanded {} Try.checked os 5 .any (Rows.fnValidActorSpec.pre6 enc Try.prog Try.f5 Rows.fnValidActorRow.domain false) (Rows.fnValidActorSpec.post enc Try.prog Try.f5 false true false false) := by
  refine returnsInHanded_of_change (C := Try.checked) own started (by kernel_rfl) Try.func5
    (ChangeSpec.witness6 (enc := enc) (C := Try.checked) false ⟨#[], #[.slice none 0 0], []⟩ 8 (by kernel_rfl) (by kernel_rfl) (by kernel_rfl) (by kernel_rfl)) ?_
  intro W base args ds gs before hval0 hW hcnd _
  have hval : ∀ (j : Nat) t v, Try.f5.params[j]? = some t → args[j]? = some v → Value.okWide Try.prog W .any base t v := hval0
  have hW' := hW
  obtain ⟨p, q, hA0, hV, rfl, hfz, hnd⟩ := hW
  have hA : DataW.TrodAll enc Try.prog W 0 (fun _ => true) true Try.f5.params.toList args.toList ds p := hA0
  rw [Try.params5] at hA hval
  obtain ⟨v0, vs0, d0, ds0, p0, q0, hargs, rfl, rfl, h0, r0⟩ := trodAll_cons hA
  obtain ⟨rfl, rfl, rfl⟩ := trodAll_nil r0
  obtain rfl : args = #[v0] := by cases args; simp_all
  obtain ⟨rfl, rfl⟩ := trodVars_none hV
  have k0 := h0
  have lt0 : ∀ x ∈ p0, x.block < W.heap.size := by obtain ⟨m, hm⟩ := k0; exact DataW.trod_lt m _ _ _ hm
  obtain ⟨a0, len0, cap0, rfl⟩ := okWide_slice Try.underlying32 (hval 0 32 v0 rfl rfl)
  obtain ⟨w0, hc0⟩ := open_bytes Try.underlying32 Try.underlying5 (by kernel_rfl) h0
  clear hA0 hval0
  refine (walk a0 len0 cap0 W w0 hc0).mono fun e W' ⟨he, bel⟩ => ?_
  subst he
  exact ⟨_, rfl, _, _, _, [], _, [], hW', trodAll_mk1 (shut_bool Try.underlying4 _), (trodAll_cons_mk (Below.trod laidOut (by kernel_rfl) (of_decide_eq_true (by kernel_rfl)) k0 bel lt0) trodAll_mk0), rfl, bel.frame _, fun h => by cases h⟩

theorem over : Rows.fnValidActorRow.holds Try.pinned (OpenSpec.ofChange Rows.fnValidActorSpec) :=
  OpenClaim.holds_of_wide 5 Try.f5 rfl rfl rfl rfl rfl rfl rfl ⟨rfl, rfl, rfl, rfl, rfl⟩ rfl rfl rfl rfl rfl (by kernel_rfl) Try.func5 (by kernel_rfl)
    (of_decide_eq_true (by kernel_rfl)) (by unfold Func.isWrapper; first | (rw [if_pos (by decide +kernel)]; kernel_rfl) | (rw [if_neg (by decide +kernel)]; exact ⟨rfl, rfl⟩))
    (fun os started H enc _ => lifted os started H enc)

theorem proved : Rows.FnValidActorSaid := over
end Go.Proofs.Ytoadkefajobgnaa.FnValidActor
