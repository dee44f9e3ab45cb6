/-
  The first fault, as the reference finds it: a second, a history.
-/
import Derived.Test.YtcckipckgnkieaaPlFault2
namespace Go.Proofs.Ytcckipckgnkieaa
open Go.RowKit
set_option linter.unusedVariables false

theorem bad_ref {t h : List (List Int)} (hg : GoodW t h) {k : Nat} (hk : k < h.length) : Bad t h k ↔ ¬ Clear t (gm h k) ∨ ∃ i, i < (gm h k).length ∧ EarlyR t h k (ga (gm h k) i) := by
  have hm := hg.m k hk
  constructor
  · rintro ⟨b, hb, ⟨a, ha, h1⟩ | h1⟩
    · exact .inl fun hc => hc a ha b hb h1
    · obtain ⟨i, hi, rfl⟩ := mem_ga hb
      exact .inr ⟨i, hi, (early_back hg hk (hm.get hi)).mp h1⟩
  · rintro (h1 | ⟨i, hi, h1⟩)
    · have : ∃ a, ∃ _ : a ∈ gm h k, ∃ b, ∃ _ : b ∈ gm h k, 0 < tz t a b := by
        apply Classical.byContradiction
        intro hn
        exact h1 fun a ha b hb hz => hn ⟨a, ha, b, hb, hz⟩
      obtain ⟨a, ha, b, hb, hz⟩ := this
      exact ⟨b, hb, .inl ⟨a, ha, hz⟩⟩
    · exact ⟨_, ga_mem hi, .inr ((early_back hg hk (hm.get hi)).mpr h1)⟩
theorem sEarly_v (t h : List (List Int)) (k x : Nat) (v : Bool) (hv : earB t h k (x : Int) = v) (T C : Option Addr) (c d : Nat) (w : World) (hr : RdSS fI w T t) (hh : RdSS fI w C h) (hg : GoodW t h) (hk : k < h.length) (hx : x < t.length) :
    Calls Try.prog 86 #[.slice T t.length c, .slice C h.length d, .int .i64 (k : Int), .int .i64 (x : Int)] w fun e w' => e = .returned (.bool v) ∧ Below w.heap.size w w' := by rw [← hv]; exact sEarly_any t h k x T C c d w hr hh hg hk hx
set_option maxHeartbeats 1600000 in
theorem sBad_any (t h : List (List Int)) (k : Nat) (T C : Option Addr) (c d : Nat) (w : World) (hr : RdSS fI w T t) (hh : RdSS fI w C h) (hg : GoodW t h) (hk : k < h.length) :
    Calls Try.prog 60 #[.slice T t.length c, .slice C h.length d, .int .i64 (k : Int)] w fun e w' => e = .returned (.bool (badB t h k)) ∧ Below w.heap.size w w' := by
  have hm := hg.m k hk
  have hml := hm.len
  have hn8 := hg.c.n2
  have Hg := Lib.hid hg
  have Hm := Lib.hid hm
  have Hcf := Lib.hid (conF_yes (dec_iff.mpr hg.c : validC t = true))
  have hrl : ∀ a, a < t.length → (gm t a).length ≤ 1000000000 := fun a ha => by rw [hg.c.rl a ha]; omega
  have Hrf := Lib.hid (bad_ref hg hk)
  obtain ⟨b, o, A, c', rfl, hcw, hrd⟩ := rowAt hh hk
  obtain ⟨m, hmm⟩ : ∃ m, m = gm h k := ⟨_, rfl⟩
  rw [← hmm] at hcw hrd hml Hrf Hm
  clear hg hm hmm
  go_enter Try.func60, Try.ntmps60
  go_wp2_with fail
  obtain ⟨S, hS⟩ : ∃ S : World → Prop, S = fun y => y.cell? ⟨b, o + k, none⟩ = some (.slice A m.length c') := ⟨_, rfl⟩
  have hS1 : ∀ y, S y → y.cell? ⟨b, o + k, none⟩ = some (.slice A m.length c') := fun y h => by rw [hS] at h; exact h
  have k0 : ∀ y : Held S, y.x.cell? ⟨b, o + k, none⟩ = some (.slice A m.length c') := fun y => hS1 y.x y.h
  clear hS1
  have hS3 : ∀ y : World, y.cell? ⟨b, o + k, none⟩ = some (.slice A m.length c') → S y := fun y h1 => by rw [hS]; exact h1
  have HS3 := Lib.hid hS3
  clear hS hS3
  have hkh : (k : Int) < (h.length : Int) := by omega
  refine wp_region_mix S [(0, 0), (0, 2), (0, 3), (0, 4), (0, 5), (1, 1), (1, 6), (0, 7)] [] (by kernel_rfl) (by kernel_rfl) (HS3.out _ hcw) ?_
  intro hne1
  simp only [mixOps, List.filterMap_cons, List.filterMap_nil, List.getElem?_toArray, List.getElem?_cons_zero, List.getElem?_cons_succ, Option.map_some]
  have hB : Below w.heap.size w w.drew := (Below.refl _ _).drew
  have hr0 := hr.drew
  generalize w.drew = wd at *
  repeat (refine mix_early (fun K hK => ?_); go_simp; refine hK _ ?_; clear hK K)
  refine mix_late rfl (fun K hK => ?_)
  go_wp2_with fail
  refine (sConf_any t T c _ hr0 (by omega) hrl).mono ?_
  rintro e w2 ⟨D, d2, rfl, hD, v2⟩
  have hB2 := hB.trans (v2.mono hB.size)
  rw [Hcf.out] at hD
  have Hcl : Hid ((conF t).length = t.length) := Lib.hid (by rw [Hcf.out, cfL_length])
  rw [Hcl.out]
  clear v2 hB
  go_wp2_with fail
  refine ⟨HS3.out _ ((hB2.cell (World.block_lt_of_cell? w _ hcw)).trans hcw), ?_⟩
  refine mix_late rfl (fun K hK => ?_)
  go_wp2_with fail
  refine (sClear_any t m D A c' d2 _ hD (hrd.below hB2) Hg.out.c Hm.out).mono ?_
  rintro e w3 ⟨rfl, v3⟩
  have hB3 := hB2.trans (v3.mono hB2.size)
  clear v3 hB2 hD
  go_wp2_with fail
  refine ⟨HS3.out _ ((hB3.cell (World.block_lt_of_cell? w _ hcw)).trans hcw), ?_⟩
  repeat (refine mix_early (fun K hK => ?_); go_simp; refine hK _ ?_; clear hK K)
  refine mix_nil ?_
  simp only [tailT, List.filterMap_nil]
  refine wpLateC_nil (NoPanic.normal ?_)
  clear k0 hne1
  cases hcl : clearB t m with
  | false =>
    have H := Lib.hid (show true = badB t h k from (dec_iff.mpr (Hrf.out.mpr (.inl (dec_not.mp hcl)))).symm)
    clear Hrf hcl
    go_wp2_with fail
    go_ret
    exact ⟨ret_bool H.out, hB3⟩
  | true =>
    have Hclr := Lib.hid (dec_iff.mp hcl)
    clear hcl
    go_wp2_with fail
    go_loopw [7] (fun vi wr => ∃ i : Nat, i ≤ m.length ∧ vi = .int .i64 i ∧ (∀ i', i' < i → ¬ EarlyR t h k (ga m i')) ∧ Below w.heap.size w wr) (fun vi _ => m.length - (intOf vi).toNat)
    case atStart => exact ⟨0, Nat.zero_le _, rfl, fun i' h => by omega, hB3⟩
    case round =>
      clear hB3
      obtain ⟨i, hi, rfl, hs, hB⟩ := hrel
      have Hs := Lib.hid hs
      clear hs
      have hcell := (hB.cell (World.block_lt_of_cell? w _ hcw)).trans hcw
      by_cases hlt : i < m.length
      · obtain ⟨b1, o1, rfl, hel0⟩ := elemAt hrd hlt
        have hel := (hB.cell (World.block_lt_of_cell? w _ hel0)).trans hel0
        have hb := Hm.out.get hlt
        obtain ⟨y, hy⟩ : ∃ y : Nat, ga m i = (y : Int) := ⟨_, (Int.toNat_of_nonneg hb.1).symm⟩
        have Hy := Lib.hid hy
        rw [hy] at hel hb
        have hyl : y < t.length := by omega
        have hrB := hr.below hB
        have hhB := hh.below hB
        clear hy hel0
        cases he : earB t h k (y : Int) with
        | true =>
          have hct := sEarly_v t h k y true he T (some ⟨b, o, none⟩) c d wr hrB hhB Hg.out hk hyl
          have H := Lib.hid (show true = badB t h k from (dec_iff.mpr (Hrf.out.mpr (.inr ⟨i, hlt, by rw [Hy.out]; exact dec_iff.mp he⟩))).symm)
          clear he Hs
          go_wp2_with fail
          refine hct.mono ?_
          rintro e w4 ⟨rfl, v4⟩
          have hB4 := hB.trans (v4.mono hB.size)
          clear hct v4 hB
          go_wp2_with fail
          go_ret
          exact ⟨ret_bool H.out, hB4⟩
        | false =>
          have hct := sEarly_v t h k y false he T (some ⟨b, o, none⟩) c d wr hrB hhB Hg.out hk hyl
          have H := Lib.hid (show ∀ i', i' < i + 1 → ¬ EarlyR t h k (ga m i') from fun i' hi' => by
            by_cases e : i' = i
            · subst e; rw [Hy.out]; exact dec_not.mp he
            · exact Hs.out i' (by omega))
          clear he Hs
          go_wp2_with fail
          refine hct.mono ?_
          rintro e w4 ⟨rfl, v4⟩
          have hB4 := hB.trans (v4.mono hB.size)
          clear hct v4 hB
          go_wp2_with fail
          go_roundw
          case rel => first | exact ⟨i + 1, by omega, by go_num, H.out, hB4⟩ | ((repeat apply Exists.intro); exact ⟨⟨i + 1, by omega, by go_num, H.out, hB4⟩, rfl⟩)
          case measure => simp [intOf]; omega
      · obtain rfl : i = m.length := by omega
        have H := Lib.hid (show false = badB t h k from (dec_not.mpr fun hb => by
          rcases Hrf.out.mp hb with h1 | ⟨i, hi, h1⟩
          · exact h1 Hclr.out
          · exact Hs.out i hi h1).symm)
        clear Hs hlt
        go_wp2_with fail
        go_ret
        exact ⟨ret_bool H.out, hB⟩

theorem sBad_v (t h : List (List Int)) (k : Nat) (v : Bool) (hv : badB t h k = v) (T C : Option Addr) (c d : Nat) (w : World) (hr : RdSS fI w T t) (hh : RdSS fI w C h) (hg : GoodW t h) (hk : k < h.length) :
    Calls Try.prog 60 #[.slice T t.length c, .slice C h.length d, .int .i64 (k : Int)] w fun e w' => e = .returned (.bool v) ∧ Below w.heap.size w w' := by rw [← hv]; exact sBad_any t h k T C c d w hr hh hg hk
theorem sWatch_v (t h : List (List Int)) (v : Bool) (hv : validW t h = v) (T C : Option Addr) (c d : Nat) (w : World) (hr : RdSS fI w T t) (hh : RdSS fI w C h) (hn : t.length ≤ 1000000000) (hl : ∀ k, k < t.length → (gm t k).length ≤ 1000000000) (hn2 : h.length ≤ 1000000000) (hl2 : ∀ k, k < h.length → (gm h k).length ≤ 1000000000) :
    Calls Try.prog 59 #[.slice T t.length c, .slice C h.length d] w fun e w' => e = .returned (.bool v) ∧ Below w.heap.size w w' := by rw [← hv]; exact sWatch_any t h T C c d w hr hh hn hl hn2 hl2
set_option maxHeartbeats 800000 in
theorem sFault_any (t h : List (List Int)) (T C : Option Addr) (c d : Nat) (w : World) (hr : RdSS fI w T t) (hh : RdSS fI w C h) (hn : t.length ≤ 1000000000) (hl : ∀ k, k < t.length → (gm t k).length ≤ 1000000000) (hn2 : h.length ≤ 1000000000) (hl2 : ∀ k, k < h.length → (gm h k).length ≤ 1000000000) :
    Calls Try.prog 26 #[.slice T t.length c, .slice C h.length d] w fun e w' => e = .returned (.int .i64 (faultF t h)) ∧ Below w.heap.size w w' := by
  go_enter Try.func26, Try.ntmps26
  cases hv : validW t h with
  | false =>
    have H := Lib.hid (show -2 = faultF t h from (faultF_no hv).symm)
    go_wp2_with fail
    refine (sWatch_v t h false hv T C c d _ hr hh hn hl hn2 hl2).mono ?_
    rintro e w1 ⟨rfl, v1⟩
    clear hv
    go_wp2_with fail
    go_ret
    exact ⟨ret_int H.out, v1⟩
  | true =>
    have hg := dec_iff.mp hv
    have Hg := Lib.hid hg
    have Hf := Lib.hid (faultF_yes hg)
    have h150 := hg.l
    go_wp2_with fail
    refine (sWatch_v t h true hv T C c d _ hr hh hn hl hn2 hl2).mono ?_
    rintro e w1 ⟨rfl, v1⟩
    clear hv hg
    go_wp2_with fail
    go_loopw [5] (fun vi wr => ∃ k : Nat, k ≤ h.length ∧ vi = .int .i64 k ∧ (∀ j, j < k → badB t h j = false) ∧ Below w.heap.size w wr) (fun vi _ => h.length - (intOf vi).toNat)
    case atStart => exact ⟨0, Nat.zero_le _, rfl, fun j hj => by omega, v1⟩
    case round =>
      clear v1
      obtain ⟨k, hk, rfl, hp, hB⟩ := hrel
      have Hp := Lib.hid hp
      clear hp
      by_cases hlt : k < h.length
      · have hrB := hr.below hB
        have hhB := hh.below hB
        cases hb : badB t h k with
        | true =>
          have hct := sBad_v t h k true hb T C c d wr hrB hhB Hg.out hlt
          have H := Lib.hid (show (k : Int) = faultF t h by rw [Hf.out]; exact (fstN_at hlt hb Hp.out).symm)
          clear hb Hp
          go_wp2_with fail
          refine hct.mono ?_
          rintro e w3 ⟨rfl, v3⟩
          have hB3 := hB.trans (v3.mono hB.size)
          clear hct v3 hB
          go_wp2_with fail
          go_ret
          exact ⟨ret_int H.out, hB3⟩
        | false =>
          have hct := sBad_v t h k false hb T C c d wr hrB hhB Hg.out hlt
          have H := Lib.hid (show ∀ j, j < k + 1 → badB t h j = false from fun j hj => by
            by_cases e : j = k
            · subst e; exact hb
            · exact Hp.out j (by omega))
          clear hb Hp
          go_wp2_with fail
          refine hct.mono ?_
          rintro e w3 ⟨rfl, v3⟩
          have hB3 := hB.trans (v3.mono hB.size)
          clear hct v3 hB
          go_wp2_with fail
          go_roundw
          case rel => exact ⟨k + 1, by omega, by go_num, H.out, hB3⟩
          case measure => simp [intOf]; omega
      · obtain rfl : k = h.length := by omega
        have H := Lib.hid (show -1 = faultF t h by rw [Hf.out]; exact (fstN_none.mpr Hp.out).symm)
        clear Hp hlt
        go_wp2_with fail
        go_ret
        exact ⟨ret_int H.out, hB⟩
theorem sFault_v (t h : List (List Int)) (v : Int) (hv : Hid (v = faultF t h)) (T C : Option Addr) (c d : Nat) (w : World) (hr : RdSS fI w T t) (hh : RdSS fI w C h) (hn : t.length ≤ 1000000000) (hl : ∀ k, k < t.length → (gm t k).length ≤ 1000000000) (hn2 : h.length ≤ 1000000000) (hl2 : ∀ k, k < h.length → (gm h k).length ≤ 1000000000) :
    Calls Try.prog 26 #[.slice T t.length c, .slice C h.length d] w fun e w' => e = .returned (.int .i64 v) ∧ Below w.heap.size w w' := by rw [hv.out]; exact sFault_any t h T C c d w hr hh hn hl hn2 hl2
theorem iFault_v (t h : List (List Int)) (v : Int) (hv : Hid (v = faultF t h)) (T C : Option Addr) (c d : Nat) (w : World) (hr : RdSS fI w T t) (hh : RdSS fI w C h) (hn : t.length ≤ 1000000000) (hl : ∀ k, k < t.length → (gm t k).length ≤ 1000000000) (hn2 : h.length ≤ 1000000000) (hl2 : ∀ k, k < h.length → (gm h k).length ≤ 1000000000) :
    Calls Try.prog 24 #[.slice T t.length c, .slice C h.length d] w fun e w' => e = .returned (.int .i64 v) ∧ Below w.heap.size w w' := by rw [hv.out]; exact iFault_any t h T C c d w hr hh hn hl hn2 hl2
end Go.Proofs.Ytcckipckgnkieaa
