/-
  The statement FnGreensOf: greens are letters.
-/
import Derived.Test.YtcgcjjpkcaljgaaLpFn
namespace Go.Proofs.Ytcgcjjpkcaljgaa.FnGreensOf
open Go.RowKit Go.ChangeShapes Go.WideShapes Go.ChangeAt Go.Proofs.Ytcgcjjpkcaljgaa
set_option linter.unusedVariables false

set_option maxHeartbeats 1600000 in
theorem walk (A : Option Addr) (len cap : Nat) (w : World) (h : Bytes w A len) (hc : len ≤ cap) :
    Calls Try.prog 3 #[.slice A len cap] w fun e w' => e = .returned (.bool true) ∧ Below w.heap.size w w' := by
  by_cases hl1 : 1048576 < len
  · go_enter Try.func3, Try.ntmps3
    go_wp2_with fail
    go_ret
    exact ⟨rfl, Below.refl _ _⟩
  go_enter Try.func3, Try.ntmps3
  go_wp2_with fail
  refine (drawGO_any _ A len cap h hc).mono ?_
  rintro e w1 ⟨l, rfl, hl, hB⟩
  have Hl := Lib.hid hl
  have hl20 : l.length ≤ 20 := by omega
  obtain ⟨g, hg⟩ : ∃ g, g = greensF l := ⟨_, rfl⟩
  have Hg := Lib.hid hg
  have hgl : g.length ≤ 200 := by rw [hg]; exact greensF_length l
  have hor : Hid (g = [] ∨ (validL l = true ∧ g = grnN l l.length)) := Lib.hid (by
    rw [hg]
    cases hv : validL l with
    | false => left; simp [greensF, hv]
    | true => right; exact ⟨rfl, by simp [greensF, hv, grnN]⟩)
  clear hl h hg
  go_wp2_with fail
  refine (iGrn_v l g Hg _ (by omega)).mono ?_
  rintro e w2 ⟨A2, c2, rfl, y2, v2⟩
  replace hB := hB.trans (v2.mono hB.size)
  clear v2
  go_wp2_with fail
  refine (sGrn_v l g Hg _ (by omega)).mono ?_
  rintro e w3 ⟨A3, c3, rfl, y3, v3⟩
  replace y2 := y2.below v3
  replace hB := hB.trans (v3.mono hB.size)
  clear v3
  go_wp2_with fail
  refine (equalBools_same g A2 A3 c2 c3 _ y2.rd y3.rd (by omega)).mono ?_
  rintro e w4 ⟨rfl, v4⟩
  replace y2 := y2.below v4
  replace hB := hB.trans (v4.mono hB.size)
  clear v4 y3
  rcases hor.out with rfl | ⟨hv, hgn⟩
  · have h00 : ((([] : List Bool).length : Nat) : Int) = 0 := rfl
    go_wp2_with fail
    refine (sGrn_v l [] Hg _ (by omega)).mono ?_
    rintro e w5 ⟨A5, c5, rfl, y5, v5⟩
    replace y2 := y2.below v5
    replace hB := hB.trans (v5.mono hB.size)
    clear v5
    go_wp2_with fail
    refine (equalBools_same [] A2 A5 c2 c5 _ y2.rd y5.rd (by simp)).mono ?_
    rintro e w6 ⟨rfl, v6⟩
    replace hB := hB.trans (v6.mono hB.size)
    clear v6
    go_wp2_with fail
    go_ret
    exact ⟨rfl, hB⟩
  · have hgl2 : g.length = l.length := by rw [hgn, grnN_length]
    have hle : (((g.length : Nat) : Int) == ((l.length : Nat) : Int)) = true := by rw [hgl2]; simp
    have hgz : (((g.length : Nat) : Int) == 0) = false := by rw [hgl2, Hl.out]; rfl
    have Hgn := Lib.hid (fun (k : Nat) (hk : k < l.length) => show ∃ hk' : k < g.length, g[k] = (gu l k == 71) from ⟨by rw [hgl2]; exact hk, by simp only [hgn, grnN]; rw [mapN_get]⟩)
    have Hgl := Lib.hid hgl2
    clear hgl2 hgn hor
    have y2r := y2.rd
    clear y2
    go_wp2_with fail
    go_loopw [5] (fun vi wr => ∃ k : Nat, k ≤ l.length ∧ vi = .int .i64 k ∧ ∃ m, wr = w4.drewN m) (fun vi _ => l.length - (intOf vi).toNat)
    case atStart => exact ⟨0, Nat.zero_le _, rfl, 0, rfl⟩
    case round =>
      obtain ⟨k, hk, rfl, m, rfl⟩ := hrel
      by_cases hlt : k < l.length
      · obtain ⟨hk', hgk⟩ := Hgn.out k hlt
        have hsz : k < (⟨l.toArray⟩ : ByteArray).size := hlt
        have hgu := gu_arr hsz hlt
        obtain ⟨b, o, rfl, hc2⟩ := y2r.at hk'
        rw [hgk] at hc2
        have hu : (((gu l k).toNat : Int) == 71) = (gu l k == 71) := u8c _ 71
        obtain ⟨x, hx⟩ : ∃ x, x = (gu l k == 71) := ⟨_, rfl⟩
        rw [← hx] at hu hc2
        clear hx hgk
        simp only [fB] at hc2
        generalize gu l k = u at *
        have hkg : (k : Int) < (g.length : Int) := by omega
        have hkl : (k : Int) < (l.length : Int) := by omega
        cases x
        · go_wp2_with fail
          go_quiet (fail)
          go_wp2_with fail
          go_roundw
          case rel => exact ⟨k + 1, by omega, by go_num, _, rfl⟩
          case measure => simp [intOf]; omega
        · go_wp2_with fail
          go_quiet (fail)
          go_wp2_with fail
          go_roundw
          case rel => exact ⟨k + 1, by omega, by go_num, _, rfl⟩
          case measure => simp [intOf]; omega
      · obtain rfl : k = l.length := by omega
        go_wp2_with fail
        go_ret
        exact ⟨rfl, below_drewN hB _⟩

set_option maxRecDepth 100000 in
theorem lifted (os : Os) (started : os.Started) (H : Type) (enc : TypeId × Value → H) :
    ReturnsInHanded {} Try.checked os 3 .any (Rows.fnGreensOfSpec.pre6 enc Try.prog Try.f3 Rows.fnGreensOfRow.domain false) (Rows.fnGreensOfSpec.post enc Try.prog Try.f3 false true false false) := by
  refine returnsInHanded_of_change (C := Try.checked) own started (by kernel_rfl) Try.func3
    (ChangeSpec.witness6 (enc := enc) (C := Try.checked) false ⟨#[], #[.slice none 0 0], []⟩ 8 (by kernel_rfl) (by kernel_rfl) (by kernel_rfl) (by kernel_rfl)) ?_
  intro W base args ds gs before hval0 hW hcnd _
  have hval : ∀ (j : Nat) t v, Try.f3.params[j]? = some t → args[j]? = some v → Value.okWide Try.prog W .any base t v := hval0
  have hW' := hW
  obtain ⟨p, q, hA0, hV, rfl, hfz, hnd⟩ := hW
  have hA : DataW.TrodAll enc Try.prog W 0 (fun _ => true) true Try.f3.params.toList args.toList ds p := hA0
  rw [Try.params3] at hA hval
  obtain ⟨v0, vs0, d0, ds0, p0, q0, hargs, rfl, rfl, h0, r0⟩ := trodAll_cons hA
  obtain ⟨rfl, rfl, rfl⟩ := trodAll_nil r0
  obtain rfl : args = #[v0] := by cases args; simp_all
  obtain ⟨rfl, rfl⟩ := trodVars_none hV
  have k0 := h0
  have lt0 : ∀ x ∈ p0, x.block < W.heap.size := by obtain ⟨m, hm⟩ := k0; exact DataW.trod_lt m _ _ _ hm
  obtain ⟨a0, len0, cap0, rfl⟩ := okWide_slice Try.underlying22 (hval 0 22 v0 rfl rfl)
  obtain ⟨w0, hc0⟩ := open_bytes Try.underlying22 Try.underlying5 (by kernel_rfl) h0
  clear hA0 hval0
  refine (walk a0 len0 cap0 W w0 hc0).mono fun e W' ⟨he, bel⟩ => ?_
  subst he
  exact ⟨_, rfl, _, _, _, [], _, [], hW', trodAll_mk1 (shut_bool Try.underlying4 _), (trodAll_cons_mk (Below.trod laidOut (by kernel_rfl) (of_decide_eq_true (by kernel_rfl)) k0 bel lt0) trodAll_mk0), rfl, bel.frame _, fun h => by cases h⟩

theorem over : Rows.fnGreensOfRow.holds Try.pinned (OpenSpec.ofChange Rows.fnGreensOfSpec) :=
  OpenClaim.holds_of_wide 3 Try.f3 rfl rfl rfl rfl rfl rfl rfl ⟨rfl, rfl, rfl, rfl, rfl⟩ rfl rfl rfl rfl rfl (by kernel_rfl) Try.func3 (by kernel_rfl)
    (of_decide_eq_true (by kernel_rfl)) (by unfold Func.isWrapper; first | (rw [if_pos (by decide +kernel)]; kernel_rfl) | (rw [if_neg (by decide +kernel)]; exact ⟨rfl, rfl⟩))
    (fun os started H enc _ => lifted os started H enc)

theorem proved : Rows.FnGreensOfSaid := over
end Go.Proofs.Ytcgcjjpkcaljgaa.FnGreensOf
