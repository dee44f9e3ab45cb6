/-
  The statement FnGuardHistory: what the monitor lets through has no faults.
-/
import Derived.Test.YtcckipckgnkieaaPlLaw
import Derived.Test.YtcckipckgnkieaaOpen
namespace Go.Proofs.Ytcckipckgnkieaa.FnGuardHistory
open Go.RowKit Go.ChangeShapes Go.WideShapes Go.ChangeAt Go.Proofs.Ytcckipckgnkieaa
set_option linter.unusedVariables false

theorem faultF_not {t h : List (List Int)} (hn : (guardF t h).length ≠ 0) : GoodW t h := by
  refine faultF_good fun e => ?_
  rw [guardF, if_pos e] at hn
  exact hn rfl
theorem guard_len {t h : List (List Int)} (hg : GoodW t h) : (guardF t h).length = h.length := by
  rw [guardF_length, if_neg]
  have := faultF_yes hg ▸ fstN_bd (badB t h) h.length
  omega

set_option maxRecDepth 100000 in
set_option maxHeartbeats 1600000 in
theorem walk (A : Option Addr) (len cap : Nat) (w : World) (h : Bytes w A len) (hc : len ≤ cap) :
    Calls Try.prog 10 #[.slice A len cap] w fun e w' => e = .returned (.bool true) ∧ Below w.heap.size w w' := by
  by_cases hl1 : 1048576 < len
  · go_enter Try.func10, Try.ntmps10
    go_wp2_with fail
    go_ret
    exact ⟨rfl, Below.refl _ _⟩
  go_enter Try.func10, Try.ntmps10
  go_wp2_with fail
  refine (drawGH_any _ A len cap h hc).mono ?_
  rintro e w1 ⟨t, T, c, g, C, d, rfl, hr, hh, hsm, hsh, hcd, hB⟩
  obtain ⟨l, hl⟩ : ∃ l, l = guardF t g := ⟨_, rfl⟩
  have Hl := Lib.hid hl
  have hn1 := hsm.1
  have hn2 := hsh.1
  have hle := guard_le t g
  rw [← hl] at hle
  have hll : l.length ≤ 150 := by have := hle.1; omega
  have Hlr := Lib.hid (fun k (hk : k < l.length) => show (gm l k).length ≤ 8 by
    have h1 := hle.2 k hk
    have h2 := hsh.2 k (by have := hle.1; omega)
    omega)
  have Hl1 := Lib.hid (fun k (hk : k < t.length) => show (gm t k).length ≤ 1000000000 by have := hsm.2 k hk; omega)
  have Hl2 := Lib.hid (fun k (hk : k < g.length) => show (gm g k).length ≤ 2000000 by have := hsh.2 k hk; omega)
  have Hl3 := Lib.hid (fun k (hk : k < l.length) => show (gm l k).length ≤ 2000000 by have := Hlr.out k hk; omega)
  clear hl h hsm hsh hle
  go_wp2_with fail
  refine (iGuard_v t g l Hl T C c d _ hr hh (by omega) Hl1.out (by omega) Hl2.out).mono ?_
  rintro e w2 ⟨D, d2, rfl, hL, v2⟩
  have hL2 := hL.rd
  replace hr := hr.below v2
  replace hh := hh.below v2
  replace hB := hB.trans (v2.mono hB.size)
  clear v2 hL
  go_wp2_with fail
  refine (sGuard_v t g l Hl T C c d _ hr hh (by omega) Hl1.out (by omega) Hl2.out).mono ?_
  rintro e w3 ⟨D3, d3, rfl, hL', v3⟩
  have hL3 := hL'.rd
  replace hL2 := hL2.below v3
  replace hr := hr.below v3
  replace hh := hh.below v3
  replace hB := hB.trans (v3.mono hB.size)
  clear v3 hL'
  go_wp2_with fail
  refine (equalLists_same l D D3 d2 d3 _ hL2 hL3 (by omega) Hl3.out).mono ?_
  rintro e w4 ⟨rfl, v4⟩
  replace hL2 := hL2.below v4
  replace hr := hr.below v4
  replace hh := hh.below v4
  replace hB := hB.trans (v4.mono hB.size)
  clear v4 hL3
  by_cases h0 : l.length = 0
  · have hb0 : (((l.length : Nat) : Int) == 0) = true := by simp [h0]
    obtain rfl : l = [] := List.eq_nil_of_length_eq_zero h0
    clear h0
    go_wp2_with fail
    refine (sGuard_v t g [] Hl T C c d _ hr hh (by omega) Hl1.out (by omega) Hl2.out).mono ?_
    rintro e w5 ⟨D5, d5, rfl, hL', v5⟩
    have hL5 := hL'.rd
    replace hL2 := hL2.below v5
    replace hB := hB.trans (v5.mono hB.size)
    clear v5 hL'
    go_wp2_with fail
    refine (equalLists_same [] D D5 d2 d5 _ hL2 hL5 (by simp) (fun k hk => by simp at hk)).mono ?_
    rintro e w6 ⟨rfl, v6⟩
    replace hB := hB.trans (v6.mono hB.size)
    clear v6
    go_wp2_with fail
    go_ret
    exact ⟨rfl, hB⟩
  · have Hgw := Lib.hid (faultF_not (t := t) (h := g) (by rw [← Hl.out]; exact h0))
    have Hlen := Lib.hid (show l.length = g.length by rw [Hl.out]; exact guard_len Hgw.out)
    have F1 := Lib.hid (show -1 = faultF t l by rw [Hl.out]; exact (guard_good Hgw.out).symm)
    have hb0 : (((l.length : Nat) : Int) == 0) = false := beq_eq_false_iff_ne.mpr (by omega)
    have hbl : (((l.length : Nat) : Int) == ((g.length : Nat) : Int)) = true := by rw [Hlen.out]; simp
    have G1 := Lib.hid (show l = guardF t l from (guard_same F1.out.symm).symm)
    obtain ⟨n, hn⟩ : ∃ n, n = faultF t g := ⟨_, rfl⟩
    have Hn := Lib.hid hn
    have hbd : -1 ≤ n := by
      have := faultF_yes Hgw.out ▸ fstN_bd (badB t g) g.length
      omega
    have hl0 : 0 < l.length := by omega
    clear hn h0
    go_wp2_with fail
    refine (iFault_v t g n Hn T C c d _ hr hh (by omega) Hl1.out (by omega) (fun k hk => by have := Hl2.out k hk; omega)).mono ?_
    rintro e w5 ⟨rfl, v5⟩
    replace hL2 := hL2.below v5
    replace hr := hr.below v5
    replace hh := hh.below v5
    replace hB := hB.trans (v5.mono hB.size)
    clear v5
    go_wp2_with fail
    refine (iFault_v t l (-1) F1 T D c d2 _ hr hL2 (by omega) Hl1.out (by omega) (fun k hk => by have := Hl3.out k hk; omega)).mono ?_
    rintro e w6 ⟨rfl, v6⟩
    replace hL2 := hL2.below v6
    replace hr := hr.below v6
    replace hh := hh.below v6
    replace hB := hB.trans (v6.mono hB.size)
    clear v6
    by_cases hn0 : 0 ≤ n
    · go_wp2_with fail
      refine (iGuard_v t l l G1 T D c d2 _ hr hL2 (by omega) Hl1.out (by omega) Hl3.out).mono ?_
      rintro e w7 ⟨D7, d7, rfl, hL', v7⟩
      have hL7 := hL'.rd
      replace hL2 := hL2.below v7
      replace hB := hB.trans (v7.mono hB.size)
      clear v7 hL'
      go_wp2_with fail
      refine (equalLists_same l D7 D d7 d2 _ hL7 hL2 (by omega) Hl3.out).mono ?_
      rintro e w8 ⟨rfl, v8⟩
      replace hB := hB.trans (v8.mono hB.size)
      clear v8
      go_wp2_with fail
      go_ret
      exact ⟨rfl, hB⟩
    · obtain rfl : n = -1 := by omega
      have Hsame := Lib.hid (show l = g by rw [Hl.out]; exact guard_same Hn.out.symm)
      have heq := fun w5 (h1 : RdSS fI w5 D l) (h2 : RdSS fI w5 C g) => equalLists_same l D C d2 d w5 h1 (by rw [Hsame.out]; exact h2) (by omega) Hl3.out
      rw [show RdSS fI w6 C g = RdSS fI w6 C g from rfl] at hh
      have heq2 := heq w6 hL2 hh
      have heq3 : Calls Try.prog 13 #[.slice D l.length d2, .slice C g.length d] w6 fun e w' => e = .returned (.bool true) ∧ Below w6.heap.size w6 w' := by rw [← Hlen.out]; exact heq2
      clear heq heq2
      go_wp2_with fail
      refine heq3.mono ?_
      rintro e w7 ⟨rfl, v7⟩
      replace hL2 := hL2.below v7
      replace hr := hr.below v7
      replace hB := hB.trans (v7.mono hB.size)
      clear v7 heq3
      go_wp2_with fail
      refine (iGuard_v t l l G1 T D c d2 _ hr hL2 (by omega) Hl1.out (by omega) Hl3.out).mono ?_
      rintro e w8 ⟨D8, d8, rfl, hL', v8⟩
      have hL8 := hL'.rd
      replace hL2 := hL2.below v8
      replace hB := hB.trans (v8.mono hB.size)
      clear v8 hL'
      go_wp2_with fail
      refine (equalLists_same l D8 D d8 d2 _ hL8 hL2 (by omega) Hl3.out).mono ?_
      rintro e w9 ⟨rfl, v9⟩
      replace hB := hB.trans (v9.mono hB.size)
      clear v9
      go_wp2_with fail
      go_ret
      exact ⟨rfl, hB⟩

set_option maxRecDepth 100000 in
theorem lifted (os : Os) (started : os.Started) (H : Type) (enc : TypeId × Value → H) :
    ReturnsInHanded {} Try.checked os 10 .any (Rows.fnGuardHistorySpec.pre6 enc Try.prog Try.f10 Rows.fnGuardHistoryRow.domain false) (Rows.fnGuardHistorySpec.post enc Try.prog Try.f10 false true false false) := by
  refine returnsInHanded_of_change (C := Try.checked) own started (by kernel_rfl) Try.func10
    (ChangeSpec.witness6 (enc := enc) (C := Try.checked) false ⟨#[], #[.slice none 0 0], []⟩ 8 (by kernel_rfl) (by kernel_rfl) (by kernel_rfl) (by kernel_rfl)) ?_
  intro W base args ds gs before hval0 hW hcnd _
  have hval : ∀ (j : Nat) t v, Try.f10.params[j]? = some t → args[j]? = some v → Value.okWide Try.prog W .any base t v := hval0
  have hW' := hW
  obtain ⟨p, q, hA0, hV, rfl, hfz, hnd⟩ := hW
  have hA : DataW.TrodAll enc Try.prog W 0 (fun _ => true) true Try.f10.params.toList args.toList ds p := hA0
  rw [Try.params10] at hA hval
  obtain ⟨v0, vs0, d0, ds0, p0, q0, hargs, rfl, rfl, h0, r0⟩ := trodAll_cons hA
  obtain ⟨rfl, rfl, rfl⟩ := trodAll_nil r0
  obtain rfl : args = #[v0] := by cases args; simp_all
  obtain ⟨rfl, rfl⟩ := trodVars_none hV
  have k0 := h0
  have lt0 : ∀ x ∈ p0, x.block < W.heap.size := by obtain ⟨m, hm⟩ := k0; exact DataW.trod_lt m _ _ _ hm
  obtain ⟨a0, len0, cap0, rfl⟩ := okWide_slice Try.underlying22 (hval 0 22 v0 rfl rfl)
  obtain ⟨w0, hc0⟩ := open_bytes Try.underlying22 Try.underlying5 (by kernel_rfl) h0
  clear hA0 hval0
  refine (walk a0 len0 cap0 W w0 hc0).mono fun e W' ⟨he, bel⟩ => ?_
  subst he
  exact ⟨_, rfl, _, _, _, [], _, [], hW', trodAll_mk1 (shut_bool Try.underlying4 _), (trodAll_cons_mk (Below.trod laidOut (by kernel_rfl) (of_decide_eq_true (by kernel_rfl)) k0 bel lt0) trodAll_mk0), rfl, bel.frame _, fun h => by cases h⟩

theorem over : Rows.fnGuardHistoryRow.holds Try.pinned (OpenSpec.ofChange Rows.fnGuardHistorySpec) :=
  OpenClaim.holds_of_wide 10 Try.f10 rfl rfl rfl rfl rfl rfl rfl ⟨rfl, rfl, rfl, rfl, rfl⟩ rfl rfl rfl rfl rfl (by kernel_rfl) Try.func10 (by kernel_rfl)
    (of_decide_eq_true (by kernel_rfl)) (by unfold Func.isWrapper; first | (rw [if_pos (by decide +kernel)]; kernel_rfl) | (rw [if_neg (by decide +kernel)]; exact ⟨rfl, rfl⟩))
    (fun os started H enc _ => lifted os started H enc)

theorem proved : Rows.FnGuardHistorySaid := over
end Go.Proofs.Ytcckipckgnkieaa.FnGuardHistory
