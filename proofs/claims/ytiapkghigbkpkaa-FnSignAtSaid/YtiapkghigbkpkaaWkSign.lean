/-
  The statement FnSignAt: signs follow each other.
-/
import Derived.Test.YtiapkghigbkpkaaOpen
import Derived.Test.YtiapkghigbkpkaaWkDraw
namespace Go.Proofs.Ytiapkghigbkpkaa.FnSignAt
open Go.RowKit Go.ChangeShapes Go.WideShapes Go.ChangeAt Go.Proofs.Ytiapkghigbkpkaa
set_option linter.unusedVariables false

theorem walk (A : Option Addr) (len cap : Nat) (w : World) (h : Bytes w A len) (hc : len ≤ cap) :
    Calls Try.prog 9 #[.slice A len cap] w fun e w' => e = .returned (.bool true) ∧ Below w.heap.size w w' := by
  by_cases hl : 1048576 < len
  · go_enter Try.func9, Try.ntmps9
    go_wp2_with fail
    go_ret
    exact ⟨rfl, Below.refl _ _⟩
  go_enter Try.func9, Try.ntmps9
  go_wp2_with fail
  refine (dSign_any _ A len cap h hc).mono ?_
  rintro e w1 ⟨l, s, k, t, rfl, hb1⟩
  obtain ⟨g0, g1, g2⟩ := box_cells w1 l s k
  have fin : ∀ y : Grow (w1.alloc (.cells (cells3 l s k) 25)), Below w.heap.size w y.x := fun y => hb1.trans (y.out.mono hb1.size)
  have Fin := Lib.hid fin
  clear fin hb1
  by_cases hv : validC l s k = true
  · obtain ⟨h1, h2, h3, h4, h5, h6⟩ := validC_bd hv
    obtain ⟨f1, f2⟩ := flash_bd h1 h2 h3
    have HS := Lib.hid (show ∀ x : Int, signF l s k x = if x < 0 then 0 else if x < k then 1 else if x < k + flash l s then 2 else 0 from fun x => by simp only [signF, hv, if_true])
    obtain ⟨v, hv1, hv2, hv3⟩ : ∃ v : Int, signF l s k t = v ∧ 0 ≤ v ∧ v < 3 := ⟨_, rfl, by rw [HS.out]; omega, by rw [HS.out]; omega⟩
    go_wp2_with fail
    refine (iSign_v _ _ _ _ _ _ hv1).mono ?_; rintro e w' ⟨rfl, hb⟩; obtain ⟨y1, rfl⟩ := Grow.first hb; clear hb
    go_wp2_with fail
    refine (sSign_v _ _ _ _ _ _ hv1).mono ?_; rintro e w' ⟨rfl, hb⟩; obtain ⟨y2, rfl⟩ := Grow.step hb; clear hb hv1
    have hv4 : (v == 3) = false := by simp; omega
    go_wp2_with fail
    go_loopw [6, 7, 8] (fun p q i wr => ∃ x : Int, -3 ≤ x ∧ x ≤ k + flash l s + 3 ∧ i = .int .i64 x ∧ p = .int .i64 (max 0 (min x k)) ∧ q = .int .i64 (max 0 (min (x - k) (flash l s))) ∧ ∃ y : Grow (w1.alloc (.cells (cells3 l s k) 25)), wr = y.x) (fun _ _ i _ => (k + flash l s + 3 - intOf i).toNat)
    case atStart => exact ⟨-3, by omega, by omega, rfl, by congr 1; omega, by congr 1; omega, _, rfl⟩
    case round =>
      obtain ⟨x, hx0, hx1, rfl, hp, hq, y3, rfl⟩ := hrel
      obtain ⟨p, hp'⟩ : ∃ p : Int, p = max 0 (min x k) := ⟨_, rfl⟩
      obtain ⟨q, hq'⟩ : ∃ q : Int, q = max 0 (min (x - k) (flash l s)) := ⟨_, rfl⟩
      rw [← hp'] at hp
      rw [← hq'] at hq
      subst hp hq
      have p1 : 0 ≤ p ∧ p ≤ k := by omega
      have q1 : 0 ≤ q ∧ q ≤ flash l s := by omega
      obtain ⟨p1, p2⟩ := p1
      obtain ⟨q1, q2⟩ := q1
      have HP := Lib.hid hp'
      have HQ := Lib.hid hq'
      clear hp' hq'
      by_cases hlt : x < k + flash l s + 3
      · rcases (show (x < 0 ∨ k + flash l s ≤ x) ∨ (0 ≤ x ∧ x < k) ∨ (k ≤ x ∧ x < k + flash l s) by omega) with hr | ⟨hr1, hr2⟩ | ⟨hr1, hr2⟩
        · have hS : signF l s k x = 0 := by rw [HS.out]; omega
          go_wp2_with fail
          refine wp_region_grow _ (by kernel_rfl) (by kernel_rfl) y3.h ?_
          repeat (go_big_quiet_step ((go_at_call 13; exact grow_of (iFlash_yes _ _ _ _ hv))))
          refine wpQuiet_nil ?_
          rintro _ ⟨y4, rfl⟩
          go_wp2_with fail
          refine (iSign_v _ _ _ _ _ _ hS).mono ?_; rintro e w' ⟨rfl, hb⟩; obtain ⟨y5, rfl⟩ := Grow.step hb; clear hb hS
          go_wp2_with fail
          go_roundw
          case rel => exact ⟨x + 1, by omega, by omega, rfl, by have := HP.out; congr 1; omega, by have := HQ.out; congr 1; omega, _, rfl⟩
          case measure => simp [intOf]; omega
        · have hS : signF l s k x = 1 := by rw [HS.out]; omega
          go_wp2_with fail
          refine wp_region_grow _ (by kernel_rfl) (by kernel_rfl) y3.h ?_
          repeat (go_big_quiet_step ((go_at_call 13; exact grow_of (iFlash_yes _ _ _ _ hv))))
          refine wpQuiet_nil ?_
          rintro _ ⟨y4, rfl⟩
          go_wp2_with fail
          refine (iSign_v _ _ _ _ _ _ hS).mono ?_; rintro e w' ⟨rfl, hb⟩; obtain ⟨y5, rfl⟩ := Grow.step hb; clear hb hS
          go_wp2_with fail
          go_roundw
          case rel => exact ⟨x + 1, by omega, by omega, rfl, by have := HP.out; congr 1; omega, by have := HQ.out; congr 1; omega, _, rfl⟩
          case measure => simp [intOf]; omega
        · have hS : signF l s k x = 2 := by rw [HS.out]; omega
          go_wp2_with fail
          refine wp_region_grow _ (by kernel_rfl) (by kernel_rfl) y3.h ?_
          repeat (go_big_quiet_step ((go_at_call 13; exact grow_of (iFlash_yes _ _ _ _ hv))))
          refine wpQuiet_nil ?_
          rintro _ ⟨y4, rfl⟩
          go_wp2_with fail
          refine (iSign_v _ _ _ _ _ _ hS).mono ?_; rintro e w' ⟨rfl, hb⟩; obtain ⟨y5, rfl⟩ := Grow.step hb; clear hb hS
          go_wp2_with fail
          go_roundw
          case rel => exact ⟨x + 1, by omega, by omega, rfl, by have := HP.out; congr 1; omega, by have := HQ.out; congr 1; omega, _, rfl⟩
          case measure => simp [intOf]; omega
      · have e1 : p = k := by have := HP.out; omega
        have e2 : q = flash l s := by have := HQ.out; omega
        subst e1 e2
        go_wp2_with fail
        refine wp_region_grow _ (by kernel_rfl) (by kernel_rfl) y3.h ?_
        repeat (go_big_quiet_step ((go_at_call 13; exact grow_of (iFlash_yes _ _ _ _ hv))))
        refine wpQuiet_nil ?_
        rintro _ ⟨y4, rfl⟩
        go_wp2_with fail
        refine (iFlash_yes _ _ _ _ hv).mono ?_; rintro e w' ⟨rfl, hb⟩; obtain ⟨y5, rfl⟩ := Grow.step hb; clear hb
        go_wp2_with fail
        go_ret
        exact ⟨rfl, Fin.out _⟩
  · have hv : validC l s k = false := by simpa using hv
    have hS : signF l s k t = 3 := by simp [signF, hv]
    go_wp2_with fail
    refine (iSign_v _ _ _ _ _ _ hS).mono ?_; rintro e w' ⟨rfl, hb⟩; obtain ⟨y1, rfl⟩ := Grow.first hb; clear hb
    go_wp2_with fail
    refine (sSign_v _ _ _ _ _ _ hS).mono ?_; rintro e w' ⟨rfl, hb⟩; obtain ⟨y2, rfl⟩ := Grow.step hb; clear hb
    go_wp2_with fail
    refine (sSign_v _ _ _ _ _ _ hS).mono ?_; rintro e w' ⟨rfl, hb⟩; obtain ⟨y3, rfl⟩ := Grow.step hb; clear hb
    go_wp2_with fail
    go_ret
    exact ⟨rfl, Fin.out _⟩

set_option maxRecDepth 100000 in
theorem lifted (os : Os) (started : os.Started) (H : Type) (enc : TypeId × Value → H) :
    ReturnsInHanded {} Try.checked os 9 .any (Rows.fnSignAtSpec.pre6 enc Try.prog Try.f9 Rows.fnSignAtRow.domain false) (Rows.fnSignAtSpec.post enc Try.prog Try.f9 false true false false) := by
  refine returnsInHanded_of_change (C := Try.checked) own started (by kernel_rfl) Try.func9
    (ChangeSpec.witness6 (enc := enc) (C := Try.checked) false ⟨#[], #[.slice none 0 0], []⟩ 8 (by kernel_rfl) (by kernel_rfl) (by kernel_rfl) (by kernel_rfl)) ?_
  intro W base args ds gs before hval0 hW hcnd _
  have hval : ∀ (j : Nat) t v, Try.f9.params[j]? = some t → args[j]? = some v → Value.okWide Try.prog W .any base t v := hval0
  have hW' := hW
  obtain ⟨p, q, hA0, hV, rfl, hfz, hnd⟩ := hW
  have hA : DataW.TrodAll enc Try.prog W 0 (fun _ => true) true Try.f9.params.toList args.toList ds p := hA0
  rw [Try.params9] at hA hval
  obtain ⟨v0, vs0, d0, ds0, p0, q0, hargs, rfl, rfl, h0, r0⟩ := trodAll_cons hA
  obtain ⟨rfl, rfl, rfl⟩ := trodAll_nil r0
  obtain rfl : args = #[v0] := by cases args; simp_all
  obtain ⟨rfl, rfl⟩ := trodVars_none hV
  have k0 := h0
  have lt0 : ∀ x ∈ p0, x.block < W.heap.size := by obtain ⟨m, hm⟩ := k0; exact DataW.trod_lt m _ _ _ hm
  obtain ⟨a0, len0, cap0, rfl⟩ := okWide_slice Try.underlying30 (hval 0 30 v0 rfl rfl)
  obtain ⟨w0, hc0⟩ := open_bytes Try.underlying30 Try.underlying5 (by kernel_rfl) h0
  clear hA0 hval0
  refine (walk a0 len0 cap0 W w0 hc0).mono fun e W' ⟨he, bel⟩ => ?_
  subst he
  exact ⟨_, rfl, _, _, _, [], _, [], hW', trodAll_mk1 (shut_bool Try.underlying4 _), (trodAll_cons_mk (Below.trod laidOut (by kernel_rfl) (of_decide_eq_true (by kernel_rfl)) k0 bel lt0) trodAll_mk0), rfl, bel.frame _, fun h => by cases h⟩

theorem over : Rows.fnSignAtRow.holds Try.pinned (OpenSpec.ofChange Rows.fnSignAtSpec) :=
  OpenClaim.holds_of_wide 9 Try.f9 rfl rfl rfl rfl rfl rfl rfl ⟨rfl, rfl, rfl, rfl, rfl⟩ rfl rfl rfl rfl rfl (by kernel_rfl) Try.func9 (by kernel_rfl)
    (of_decide_eq_true (by kernel_rfl)) (by unfold Func.isWrapper; first | (rw [if_pos (by decide +kernel)]; kernel_rfl) | (rw [if_neg (by decide +kernel)]; exact ⟨rfl, rfl⟩))
    (fun os started H enc _ => lifted os started H enc)

theorem proved : Rows.FnSignAtSaid := over
end Go.Proofs.Ytiapkghigbkpkaa.FnSignAt
