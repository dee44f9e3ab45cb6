/-
  The statement FnCrossedAt: everybody gets across.
-/
import Derived.Test.YtiapkghigbkpkaaOpen
import Derived.Test.YtiapkghigbkpkaaWkDraw
namespace Go.Proofs.Ytiapkghigbkpkaa.FnCrossedAt
open Go.RowKit Go.ChangeShapes Go.WideShapes Go.ChangeAt Go.Proofs.Ytiapkghigbkpkaa
set_option linter.unusedVariables false

theorem walk (A : Option Addr) (len cap : Nat) (w : World) (h : Bytes w A len) (hc : len ≤ cap) :
    Calls Try.prog 10 #[.slice A len cap] w fun e w' => e = .returned (.bool true) ∧ Below w.heap.size w w' := by
  by_cases hl : 1048576 < len
  · go_enter Try.func10, Try.ntmps10
    go_wp2_with fail
    go_ret
    exact ⟨rfl, Below.refl _ _⟩
  go_enter Try.func10, Try.ntmps10
  go_wp2_with fail
  refine (dCrossed_any _ A len cap h hc).mono ?_
  rintro e w1 ⟨l, s, k, t, rfl, hb1⟩
  obtain ⟨g0, g1, g2⟩ := box_cells w1 l s k
  have fin : ∀ y : Grow (w1.alloc (.cells (cells3 l s k) 25)), Below w.heap.size w y.x := fun y => hb1.trans (y.out.mono hb1.size)
  have Fin := Lib.hid fin
  clear fin hb1
  by_cases hv : validC l s k = true ∧ (0 ≤ t ∧ t < k)
  · obtain ⟨hv, t0, t1⟩ := hv
    obtain ⟨h1, h2, h3, h4, h5, h6⟩ := validC_bd hv
    obtain ⟨f1, f2⟩ := flash_bd h1 h2 h3
    obtain ⟨f3, f4⟩ := flash_lo (l := l) h3
    have f7 : t + flash l s - t = flash l s := by omega
    have hC : crossedF l s k t = t + flash l s := by simp only [crossedF, hv, inB]; simp; omega
    have hS : ∀ x : Int, t ≤ x → x < k → signF l s k x = 1 := fun x hx hx2 => by simp only [signF, hv, if_true]; rw [if_neg (by omega), if_pos hx2]
    have hS2 : ∀ x : Int, k ≤ x → x < t + flash l s → signF l s k x = 2 := fun x hx hx2 => by simp only [signF, hv, if_true]; rw [if_neg (by omega), if_neg (by omega), if_pos (by omega)]
    have HS := Lib.hid hS
    have HS2 := Lib.hid hS2
    have F7 := Lib.hid f7
    clear hS hS2 f7
    go_wp2_with fail
    refine (iCrossed_v _ _ _ _ _ _ hC).mono ?_; rintro e w' ⟨rfl, hb⟩; obtain ⟨y1, rfl⟩ := Grow.first hb; clear hb
    go_wp2_with fail
    refine (sCrossed_v _ _ _ _ _ _ hC).mono ?_; rintro e w' ⟨rfl, hb⟩; obtain ⟨y2, rfl⟩ := Grow.step hb; clear hb hC
    go_wp2_with fail
    go_loopw [6] (fun i wr => ∃ x : Int, t ≤ x ∧ x ≤ t + flash l s ∧ i = .int .i64 x ∧ ∃ y : Grow (w1.alloc (.cells (cells3 l s k) 25)), wr = y.x) (fun i _ => (t + flash l s - intOf i).toNat)
    case atStart => exact ⟨t, by omega, by omega, rfl, _, rfl⟩
    case round =>
      obtain ⟨x, hx0, hx1, rfl, y3, rfl⟩ := hrel
      by_cases hlt : x < t + flash l s
      · by_cases hk : x < k
        · have hS := HS.out x hx0 hk
          go_wp2_with fail
          refine (iSign_v _ _ _ _ _ _ hS).mono ?_; rintro e w' ⟨rfl, hb⟩; obtain ⟨y4, rfl⟩ := Grow.step hb; clear hb hS
          go_wp2_with fail
          go_roundw
          case rel => exact ⟨x + 1, by omega, by omega, rfl, _, rfl⟩
          case measure => simp [intOf]; omega
        · have hS := HS2.out x (by omega) hlt
          go_wp2_with fail
          refine (iSign_v _ _ _ _ _ _ hS).mono ?_; rintro e w' ⟨rfl, hb⟩; obtain ⟨y4, rfl⟩ := Grow.step hb; clear hb hS
          go_wp2_with fail
          go_roundw
          case rel => exact ⟨x + 1, by omega, by omega, rfl, _, rfl⟩
          case measure => simp [intOf]; omega
      · have hS := HS.out t (by omega) t1
        go_wp2_with fail
        refine (iSign_v _ _ _ _ _ _ hS).mono ?_; rintro e w' ⟨rfl, hb⟩; obtain ⟨y4, rfl⟩ := Grow.step hb; clear hb hS
        have f7 := F7.out
        go_wp2_with fail
        go_ret
        exact ⟨rfl, Fin.out _⟩
  · have hC := crossedF_no hv
    clear hv
    go_wp2_with fail
    refine (iCrossed_v _ _ _ _ _ _ hC).mono ?_; rintro e w' ⟨rfl, hb⟩; obtain ⟨y1, rfl⟩ := Grow.first hb; clear hb
    go_wp2_with fail
    refine (sCrossed_v _ _ _ _ _ _ hC).mono ?_; rintro e w' ⟨rfl, hb⟩; obtain ⟨y2, rfl⟩ := Grow.step hb; clear hb
    go_wp2_with fail
    refine (sCrossed_v _ _ _ _ _ _ hC).mono ?_; rintro e w' ⟨rfl, hb⟩; obtain ⟨y3, rfl⟩ := Grow.step hb; clear hb
    go_wp2_with fail
    go_ret
    exact ⟨rfl, Fin.out _⟩

set_option maxRecDepth 100000 in
theorem lifted (os : Os) (started : os.Started) (H : Type) (enc : TypeId × Value → H) :
    ReturnsInHanded {} Try.checked os 10 .any (Rows.fnCrossedAtSpec.pre6 enc Try.prog Try.f10 Rows.fnCrossedAtRow.domain false) (Rows.fnCrossedAtSpec.post enc Try.prog Try.f10 false true false false) := by
  refine returnsInHanded_of_change (C := Try.checked) own started (by kernel_rfl) Try.func10
    (ChangeSpec.witness6 (enc := enc) (C := Try.checked) false ⟨#[], #[.slice none 0 0], []⟩ 8 (by kernel_rfl) (by kernel_rfl) (by kernel_rfl) (by kernel_rfl)) ?_
  intro W base args ds gs before hval0 hW hcnd _
  have hval : ∀ (j : Nat) t v, Try.f10.params[j]? = some t → args[j]? = some v → Value.okWide Try.prog W .any base t v := hval0
  have hW' := hW
  obtain ⟨p, q, hA0, hV, rfl, hfz, hnd⟩ := hW
  have hA : DataW.TrodAll enc Try.prog W 0 (fun _ => true) true Try.f10.params.toList args.toList ds p := hA0
  rw [Try.params10] at hA hval
  obtain ⟨v0, vs0, d0, ds0, p0, q0, hargs, rfl, rfl, h0, r0⟩ := trodAll_cons hA
  obtain ⟨rfl, rfl, rfl⟩ := trodAll_nil r0
  obtain rfl : args = #[v0] := by cases args; simp_all
  obtain ⟨rfl, rfl⟩ := trodVars_none hV
  have k0 := h0
  have lt0 : ∀ x ∈ p0, x.block < W.heap.size := by obtain ⟨m, hm⟩ := k0; exact DataW.trod_lt m _ _ _ hm
  obtain ⟨a0, len0, cap0, rfl⟩ := okWide_slice Try.underlying30 (hval 0 30 v0 rfl rfl)
  obtain ⟨w0, hc0⟩ := open_bytes Try.underlying30 Try.underlying5 (by kernel_rfl) h0
  clear hA0 hval0
  refine (walk a0 len0 cap0 W w0 hc0).mono fun e W' ⟨he, bel⟩ => ?_
  subst he
  exact ⟨_, rfl, _, _, _, [], _, [], hW', trodAll_mk1 (shut_bool Try.underlying4 _), (trodAll_cons_mk (Below.trod laidOut (by kernel_rfl) (of_decide_eq_true (by kernel_rfl)) k0 bel lt0) trodAll_mk0), rfl, bel.frame _, fun h => by cases h⟩

theorem over : Rows.fnCrossedAtRow.holds Try.pinned (OpenSpec.ofChange Rows.fnCrossedAtSpec) :=
  OpenClaim.holds_of_wide 10 Try.f10 rfl rfl rfl rfl rfl rfl rfl ⟨rfl, rfl, rfl, rfl, rfl⟩ rfl rfl rfl rfl rfl (by kernel_rfl) Try.func10 (by kernel_rfl)
    (of_decide_eq_true (by kernel_rfl)) (by unfold Func.isWrapper; first | (rw [if_pos (by decide +kernel)]; kernel_rfl) | (rw [if_neg (by decide +kernel)]; exact ⟨rfl, rfl⟩))
    (fun os started H enc _ => lifted os started H enc)

theorem proved : Rows.FnCrossedAtSaid := over
end Go.Proofs.Ytiapkghigbkpkaa.FnCrossedAt
