/-
  The statement FnFirstFault: the history before the first fault has none.
-/
import Derived.Test.YtcckipckgnkieaaPlLaw
import Derived.Test.YtcckipckgnkieaaOpen
namespace Go.Proofs.Ytcckipckgnkieaa.FnFirstFault
open Go.RowKit Go.ChangeShapes Go.WideShapes Go.ChangeAt Go.Proofs.Ytcckipckgnkieaa
set_option linter.unusedVariables false

set_option maxHeartbeats 1600000 in
theorem walk (A : Option Addr) (len cap : Nat) (w : World) (h : Bytes w A len) (hc : len ≤ cap) :
    Calls Try.prog 8 #[.slice A len cap] w fun e w' => e = .returned (.bool true) ∧ Below w.heap.size w w' := by
  by_cases hl1 : 1048576 < len
  · go_enter Try.func8, Try.ntmps8
    go_wp2_with fail
    go_ret
    exact ⟨rfl, Below.refl _ _⟩
  go_enter Try.func8, Try.ntmps8
  go_wp2_with fail
  refine (drawFF_any _ A len cap h hc).mono ?_
  rintro e w1 ⟨t, T, c, g, C, d, rfl, hr, hh, hsm, hsh, hcd, hB⟩
  obtain ⟨n, hn⟩ : ∃ n, n = faultF t g := ⟨_, rfl⟩
  have Hn := Lib.hid hn
  have hbd := faultF_bd (t := t) (h := g)
  rw [← hn] at hbd
  have hn1 := hsm.1
  have hn2 := hsh.1
  have Hl := Lib.hid (fun k (hk : k < t.length) => show (gm t k).length ≤ 1000000000 by have := hsm.2 k hk; omega)
  have Hl2 := Lib.hid (fun k (hk : k < g.length) => show (gm g k).length ≤ 1000000000 by have := hsh.2 k hk; omega)
  clear hn h hsm hsh
  go_wp2_with fail
  refine (iFault_v t g n Hn T C c d _ hr hh (by omega) Hl.out (by omega) Hl2.out).mono ?_
  rintro e w2 ⟨rfl, v2⟩
  replace hr := hr.below v2
  replace hh := hh.below v2
  replace hB := hB.trans (v2.mono hB.size)
  clear v2
  go_wp2_with fail
  refine (sFault_v t g n Hn T C c d _ hr hh (by omega) Hl.out (by omega) Hl2.out).mono ?_
  rintro e w3 ⟨rfl, v3⟩
  replace hr := hr.below v3
  replace hh := hh.below v3
  replace hB := hB.trans (v3.mono hB.size)
  clear v3
  by_cases h1 : n < 0
  · go_wp2_with fail
    refine (sFault_v t g n Hn T C c d _ hr hh (by omega) Hl.out (by omega) Hl2.out).mono ?_
    rintro e w4 ⟨rfl, v4⟩
    replace hB := hB.trans (v4.mono hB.size)
    clear v4
    go_wp2_with fail
    go_ret
    exact ⟨rfl, hB⟩
  · obtain ⟨k, rfl⟩ := Int.eq_ofNat_of_zero_le (show 0 ≤ n by omega)
    obtain ⟨f1, f2⟩ := fault_take Hn.out.symm
    have F1 := Lib.hid f1.symm
    have F2 := Lib.hid f2.symm
    clear f1 f2
    have hk1 : ¬ ((g.length : Nat) : Int) ≤ (k : Int) := by omega
    have hkl : k < g.length := by omega
    obtain ⟨b, o, -, -, rfl, -, -⟩ := rowAt hh hkl
    have hkd : (k : Int) ≤ (d : Int) := by omega
    have hkd1 : (k : Int) + 1 ≤ (d : Int) := by omega
    have c1 := iFault_v t (g.take k) (-1) F1 T (some ⟨b, o, none⟩) c d w3 hr (hh.take k) (by omega) Hl.out (by simp; omega) (sm_take Hl2.out)
    rw [show (g.take k).length = k by simp; omega] at c1
    have c2 := fun w4 (hb : Below w3.heap.size w3 w4) => iFault_v t (g.take (k + 1)) k F2 T (some ⟨b, o, none⟩) c d w4 (hr.below hb) ((hh.below hb).take (k + 1)) (by omega) Hl.out (by simp; omega) (sm_take Hl2.out)
    rw [show (g.take (k + 1)).length = k + 1 by simp; omega] at c2
    clear hr hh
    go_wp2_with fail
    refine c1.mono ?_
    rintro e w4 ⟨rfl, v4⟩
    replace hB := hB.trans (v4.mono hB.size)
    have c3 := c2 w4 v4
    clear v4 c1 c2
    go_wp2_with fail
    refine c3.mono ?_
    rintro e w5 ⟨rfl, v5⟩
    replace hB := hB.trans (v5.mono hB.size)
    clear v5
    go_wp2_with fail
    go_ret
    exact ⟨rfl, hB⟩

set_option maxRecDepth 100000 in
theorem lifted (os : Os) (started : os.Started) (H : Type) (enc : TypeId × Value → H) :
    ReturnsInHanded {} Try.checked os 8 .any (Rows.fnFirstFaultSpec.pre6 enc Try.prog Try.f8 Rows.fnFirstFaultRow.domain false) (Rows.fnFirstFaultSpec.post enc Try.prog Try.f8 false true false false) := by
  refine returnsInHanded_of_change (C := Try.checked) own started (by kernel_rfl) Try.func8
    (ChangeSpec.witness6 (enc := enc) (C := Try.checked) false ⟨#[], #[.slice none 0 0], []⟩ 8 (by kernel_rfl) (by kernel_rfl) (by kernel_rfl) (by kernel_rfl)) ?_
  intro W base args ds gs before hval0 hW hcnd _
  have hval : ∀ (j : Nat) t v, Try.f8.params[j]? = some t → args[j]? = some v → Value.okWide Try.prog W .any base t v := hval0
  have hW' := hW
  obtain ⟨p, q, hA0, hV, rfl, hfz, hnd⟩ := hW
  have hA : DataW.TrodAll enc Try.prog W 0 (fun _ => true) true Try.f8.params.toList args.toList ds p := hA0
  rw [Try.params8] at hA hval
  obtain ⟨v0, vs0, d0, ds0, p0, q0, hargs, rfl, rfl, h0, r0⟩ := trodAll_cons hA
  obtain ⟨rfl, rfl, rfl⟩ := trodAll_nil r0
  obtain rfl : args = #[v0] := by cases args; simp_all
  obtain ⟨rfl, rfl⟩ := trodVars_none hV
  have k0 := h0
  have lt0 : ∀ x ∈ p0, x.block < W.heap.size := by obtain ⟨m, hm⟩ := k0; exact DataW.trod_lt m _ _ _ hm
  obtain ⟨a0, len0, cap0, rfl⟩ := okWide_slice Try.underlying22 (hval 0 22 v0 rfl rfl)
  obtain ⟨w0, hc0⟩ := open_bytes Try.underlying22 Try.underlying5 (by kernel_rfl) h0
  clear hA0 hval0
  refine (walk a0 len0 cap0 W w0 hc0).mono fun e W' ⟨he, bel⟩ => ?_
  subst he
  exact ⟨_, rfl, _, _, _, [], _, [], hW', trodAll_mk1 (shut_bool Try.underlying4 _), (trodAll_cons_mk (Below.trod laidOut (by kernel_rfl) (of_decide_eq_true (by kernel_rfl)) k0 bel lt0) trodAll_mk0), rfl, bel.frame _, fun h => by cases h⟩

theorem over : Rows.fnFirstFaultRow.holds Try.pinned (OpenSpec.ofChange Rows.fnFirstFaultSpec) :=
  OpenClaim.holds_of_wide 8 Try.f8 rfl rfl rfl rfl rfl rfl rfl ⟨rfl, rfl, rfl, rfl, rfl⟩ rfl rfl rfl rfl rfl (by kernel_rfl) Try.func8 (by kernel_rfl)
    (of_decide_eq_true (by kernel_rfl)) (by unfold Func.isWrapper; first | (rw [if_pos (by decide +kernel)]; kernel_rfl) | (rw [if_neg (by decide +kernel)]; exact ⟨rfl, rfl⟩))
    (fun os started H enc _ => lifted os started H enc)

theorem proved : Rows.FnFirstFaultSaid := over
end Go.Proofs.Ytcckipckgnkieaa.FnFirstFault
