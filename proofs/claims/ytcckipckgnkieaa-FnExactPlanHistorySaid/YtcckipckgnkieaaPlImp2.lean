/-
  Phases of the program: validity.
-/
import Derived.Test.YtcckipckgnkieaaPlImp
import Derived.Test.YtcckipckgnkieaaPlConf2
namespace Go.Proofs.Ytcckipckgnkieaa
open Go.RowKit
set_option linter.unusedVariables false

noncomputable def phB (t : List (List Int)) (m : List Int) : Bool := dec (GoodM t.length m ∧ Clear t m)
set_option maxHeartbeats 1600000 in
theorem iPh_v (t : List (List Int)) (m : List Int) (v : Bool) (hv : phB t m = v) (D A : Option Addr) (c d : Nat) (w : World) (hD : RdSS fB w D (cfL t)) (hr : RdL fI w A m) (hc : GoodC t) (hml : m.length ≤ 1000000000) (hcap : m.length ≤ c) :
    Calls Try.prog 91 #[.slice D t.length d, .slice A m.length c] w fun e w' => e = .returned (.bool v) ∧ Below w.heap.size w w' := by
  have Hv := Lib.hid hv
  have hn8 := hc.n2
  clear hv
  go_enter Try.func91, Try.ntmps91
  go_wp2_with fail
  refine (vConf_yes t D d w hD hc).mono ?_
  rintro e w1 ⟨rfl, v1⟩
  have hD1 := hD.below v1
  have hr1 := hr.below v1
  have hz1 := v1.size
  clear hD hr
  cases hm : validM t.length m with
  | false =>
    have H := Lib.hid (show false = v from Hv.out ▸ (dec_not.mpr fun h => (dec_not.mp hm) h.1).symm)
    go_wp2_with fail
    refine (iValM_v m t.length false hm A c _ hr1 hml (by omega)).mono ?_
    rintro e w2 ⟨rfl, v2⟩
    clear hm
    go_wp2_with fail
    go_ret
    exact ⟨ret_bool H.out, v1.trans (v2.mono hz1)⟩
  | true =>
    have Hm := Lib.hid (dec_iff.mp hm)
    have Hc := Lib.hid hc
    have Hcl := Lib.hid (show clearB t m = v by
      rw [← Hv.out]
      exact dec_eq ⟨fun h => ⟨Hm.out, h⟩, fun h => h.2⟩)
    have hml8 := Hm.out.len
    go_wp2_with fail
    refine (iValM_v m t.length true hm A c _ hr1 hml (by omega)).mono ?_
    rintro e w2 ⟨rfl, v2⟩
    have hB := v1.trans (v2.mono hz1)
    have hD2 := hD1.below v2
    have hr2 := hr1.below v2
    clear v1 v2 hD1 hr1 hm hc Hv hz1
    go_wp2_with fail
    go_loopw [21] (fun vi wr => ∃ k : Nat, k ≤ m.length ∧ vi = .int .i64 k ∧ (∀ i j, i < k → j < i → tz t (ga m i) (ga m j) ≤ 0) ∧ ∃ q, wr = w2.drewN q) (fun vi _ => m.length - (intOf vi).toNat)
    case atStart => exact ⟨0, Nat.zero_le _, rfl, fun i j h => by omega, 0, rfl⟩
    case round =>
      obtain ⟨k, hk, rfl, hp, q, rfl⟩ := hrel
      have Hp := Lib.hid hp
      clear hp
      by_cases hlt : k < m.length
      · obtain ⟨b, o, rfl, hel⟩ := elemAt hr2 hlt
        have hb := Hm.out.get hlt
        obtain ⟨x, hx⟩ : ∃ x : Nat, ga m k = (x : Int) := ⟨_, (Int.toNat_of_nonneg hb.1).symm⟩
        have Hx := Lib.hid hx
        rw [hx] at hel hb
        have hxl : x < t.length := by omega
        obtain ⟨b1, o1, b2, o2, c2, rfl, hc1, hc2⟩ := cfAt hD2 hxl
        have Hc2 := Lib.hid hc2
        have hkc : (k : Int) ≤ (c : Int) := by omega
        have hkc2 : k ≤ c := by omega
        clear hx hc2
        go_wp2_with fail
        go_loopw [30] (fun vi wr => ∃ j : Nat, j ≤ k ∧ vi = .int .i64 j ∧ (∀ j', j' < j → tz t (x : Int) (ga m j') ≤ 0) ∧ ∃ q, wr = w2.drewN q) (fun vi _ => k - (intOf vi).toNat)
        case atStart => exact ⟨0, Nat.zero_le _, rfl, fun j h => by omega, _, rfl⟩
        case round =>
          obtain ⟨j, hj, rfl, hq, q2, rfl⟩ := hrel
          have Hq := Lib.hid hq
          clear hq
          by_cases hlt2 : j < k
          · obtain ⟨b3, o3, e3, hel2⟩ := elemAt hr2 (k := j) (by omega)
            obtain ⟨rfl, rfl⟩ : b = b3 ∧ o = o3 := by simpa using e3
            have hb2 := Hm.out.get (i := j) (by omega)
            obtain ⟨y, hy⟩ : ∃ y : Nat, ga m j = (y : Int) := ⟨_, (Int.toNat_of_nonneg hb2.1).symm⟩
            have Hy := Lib.hid hy
            rw [hy] at hel2 hb2
            have hyl : y < t.length := by omega
            have hc3 := Hc2.out y hyl
            have Htz := Lib.hid (tz_nat t x y)
            have hxt : (x : Int) < (t.length : Int) := by omega
            have hyt : (y : Int) < (t.length : Int) := by omega
            clear e3 hy
            by_cases hz : 0 < tc t x y
            · have H := Lib.hid (show false = v from Hcl.out ▸ (dec_not.mpr fun hcl => hcl _ (ga_mem (k := k) (by omega)) _ (ga_mem (k := j) (by omega)) (by rw [Hx.out, Hy.out, Htz.out]; exact hz)).symm)
              rw [decide_eq_true hz] at hc3
              clear hz
              go_wp2_with fail
              go_ret
              exact ⟨ret_bool H.out, below_drewN hB _⟩
            · have H := Lib.hid (show ∀ j', j' < j + 1 → tz t (x : Int) (ga m j') ≤ 0 from fun j' hj' => by
                by_cases e : j' = j
                · subst e; rw [Hy.out, Htz.out]; omega
                · exact Hq.out j' (by omega))
              rw [decide_eq_false hz] at hc3
              clear hz Hq
              go_wp2_with fail
              go_roundw
              case rel => exact ⟨j + 1, by omega, by go_num, H.out, _, rfl⟩
              case measure => simp [intOf]; omega
          · obtain rfl : j = k := by omega
            have H := Lib.hid (show ∀ i j', i < j + 1 → j' < i → tz t (ga m i) (ga m j') ≤ 0 from fun i j' h1 h2 => by
              by_cases e : i = j
              · subst e; rw [Hx.out]; exact Hq.out j' h2
              · exact Hp.out i j' (by omega) h2)
            clear Hq hlt2
            go_wp2_with fail
            go_roundw
            case rel => exact ⟨j + 1, by omega, by go_num, H.out, _, rfl⟩
            case measure => simp [intOf]; omega
      · obtain rfl : k = m.length := by omega
        have H := Lib.hid (show true = v from Hcl.out ▸ (dec_iff.mpr (clear_of Hc.out Hm.out fun i j h1 h2 => by have := Hp.out i j h1 h2; omega)).symm)
        clear Hp hlt
        go_wp2_with fail
        go_ret
        exact ⟨ret_bool H.out, below_drewN hB _⟩

/-- A slice of slices whose rows have room. -/
def RdC (w : World) (C : Option Addr) (css : List (List Int)) : Prop :=
  ∀ k, k < css.length → ∃ b o A c, C = some ⟨b, o, none⟩ ∧ w.cell? ⟨b, o + k, none⟩ = some (.slice A (gm css k).length c) ∧ RdL fI w A (gm css k) ∧ (gm css k).length ≤ c
theorem RdC.below {w w' : World} {C : Option Addr} {css : List (List Int)} (h : RdC w C css) (hb : Below w.heap.size w w') : RdC w' C css := fun k hk => by
  obtain ⟨b, o, A, c, h1, h2, h3, h4⟩ := h k hk
  exact ⟨b, o, A, c, h1, (hb.cell (World.block_lt_of_cell? w _ h2)).trans h2, h3.below hb, h4⟩
set_option maxHeartbeats 1600000 in
theorem iPhs_v (t h : List (List Int)) (v : Bool) (hv : dec (∀ k, k < h.length → GoodM t.length (gm h k) ∧ Clear t (gm h k)) = v) (T C : Option Addr) (c d : Nat) (w : World) (hr : RdSS fI w T t) (hh : RdC w C h) (hc : GoodC t) (hn : h.length ≤ 1000000000) (hl : ∀ k, k < h.length → (gm h k).length ≤ 1000000000) :
    Calls Try.prog 69 #[.slice T t.length c, .slice C h.length d] w fun e w' => e = .returned (.bool v) ∧ Below w.heap.size w w' := by
  have Hv := Lib.hid hv
  have hn8 := hc.n2
  have Hc := Lib.hid hc
  have Hcf := Lib.hid (conF_yes (dec_iff.mpr hc : validC t = true))
  have hrl : ∀ a, a < t.length → (gm t a).length ≤ 1000000000 := fun a ha => by rw [hc.rl a ha]; omega
  clear hv hc
  go_enter Try.func69, Try.ntmps69
  go_wp2_with fail
  refine (iConf_any t T c _ hr (by omega) hrl).mono ?_
  rintro e w2 ⟨D, d2, rfl, hD, v2⟩
  rw [Hcf.out] at hD
  have Hcl : Hid ((conF t).length = t.length) := Lib.hid (by rw [Hcf.out, cfL_length])
  rw [Hcl.out]
  clear hrl
  go_wp2_with fail
  go_loopw [12] (fun vi wr => ∃ k : Nat, k ≤ h.length ∧ vi = .int .i64 k ∧ (∀ j, j < k → GoodM t.length (gm h j) ∧ Clear t (gm h j)) ∧ Below w2.heap.size w2 wr) (fun vi _ => h.length - (intOf vi).toNat)
  case atStart => exact ⟨0, Nat.zero_le _, rfl, fun j hj => by omega, Below.refl _ _⟩
  case round =>
    obtain ⟨k, hk, rfl, hp, hB⟩ := hrel
    have Hp := Lib.hid hp
    have V := v2.trans (hB.mono v2.size)
    clear hp
    by_cases hlt : k < h.length
    · obtain ⟨b, o, A, c', rfl, hcw, hrd, hcap⟩ := hh k hlt
      have hcell := (V.cell (World.block_lt_of_cell? w _ hcw)).trans hcw
      have hct := fun u hu => iPh_v t (gm h k) u hu D A c' d2 wr (hD.below hB) (hrd.below V) Hc.out (hl k hlt) hcap
      cases hm : phB t (gm h k) with
      | false =>
        have hct' := hct false hm
        have H := Lib.hid (show false = v from Hv.out ▸ (dec_not.mpr fun g => (dec_not.mp hm) (g k hlt)).symm)
        clear hm hcw hrd hct hcap
        go_wp2_with fail
        refine hct'.mono ?_
        rintro e w3 ⟨rfl, v3⟩
        have V3 := V.trans (v3.mono V.size)
        clear hct' v3 V hB
        go_wp2_with fail
        go_ret
        exact ⟨ret_bool H.out, V3⟩
      | true =>
        have hct' := hct true hm
        have H := Lib.hid (show ∀ j, j < k + 1 → GoodM t.length (gm h j) ∧ Clear t (gm h j) from fun j hj => by
          by_cases e : j = k
          · subst e; exact dec_iff.mp hm
          · exact Hp.out j (by omega))
        clear hm hcw hrd Hp hct hcap
        go_wp2_with fail
        refine hct'.mono ?_
        rintro e w3 ⟨rfl, v3⟩
        have hB3 := hB.trans (v3.mono hB.size)
        clear hct' v3 hB V
        go_wp2_with fail
        go_roundw
        case rel => exact ⟨k + 1, by omega, by go_num, H.out, hB3⟩
        case measure => simp [intOf]; omega
    · obtain rfl : k = h.length := by omega
      have H := Lib.hid (show true = v from Hv.out ▸ (dec_iff.mpr Hp.out).symm)
      clear Hp hlt
      go_wp2_with fail
      go_ret
      exact ⟨ret_bool H.out, V⟩
end Go.Proofs.Ytcckipckgnkieaa
