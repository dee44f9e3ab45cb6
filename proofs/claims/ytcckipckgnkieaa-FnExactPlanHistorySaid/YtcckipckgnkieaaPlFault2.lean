/-
  The first fault, as the reference finds it.
-/
import Derived.Test.YtcckipckgnkieaaPlFault
import Derived.Test.YtcckipckgnkieaaRegM
namespace Go.Proofs.Ytcckipckgnkieaa
open Go.RowKit
set_option linter.unusedVariables false

noncomputable def clearB (t : List (List Int)) (m : List Int) : Bool := dec (Clear t m)
theorem clear_of {t : List (List Int)} {m : List Int} (hc : GoodC t) (hm : GoodM t.length m) (h : ∀ i j, i < m.length → j < i → ¬ 0 < tz t (ga m i) (ga m j)) : Clear t m := by
  intro a ha b hb hz
  obtain ⟨i, hi, rfl⟩ := mem_ga ha
  obtain ⟨j, hj, rfl⟩ := mem_ga hb
  rcases Nat.lt_trichotomy i j with hl | hl | hl
  · exact h j i hj hl ((tz_sy hc (hm.get hi) (hm.get hj)).mp hz)
  · subst hl
    have := tz_di hc (hm.get hi)
    omega
  · exact h i j hi hl hz
set_option maxHeartbeats 1600000 in
theorem sClear_any (t : List (List Int)) (m : List Int) (D A : Option Addr) (c d : Nat) (w : World) (hD : RdSS fB w D (cfL t)) (hr : RdL fI w A m) (hc : GoodC t) (hm : GoodM t.length m) :
    Calls Try.prog 84 #[.slice D t.length d, .slice A m.length c] w fun e w' => e = .returned (.bool (clearB t m)) ∧ Below w.heap.size w w' := by
  have hml := hm.len
  have hn8 := hc.n2
  have Hc := Lib.hid hc
  have Hm := Lib.hid hm
  clear hc hm
  go_enter Try.func84, Try.ntmps84
  go_wp2_with fail
  go_loopw [5] (fun vi wr => ∃ k : Nat, k ≤ m.length ∧ vi = .int .i64 k ∧ (∀ i j, i < k → j < i → tz t (ga m i) (ga m j) ≤ 0) ∧ ∃ q, wr = w.drewN q) (fun vi _ => m.length - (intOf vi).toNat)
  case atStart => exact ⟨0, Nat.zero_le _, rfl, fun i j h => by omega, 0, rfl⟩
  case round =>
    obtain ⟨k, hk, rfl, hp, q, rfl⟩ := hrel
    have Hp := Lib.hid hp
    clear hp
    by_cases hlt : k < m.length
    · obtain ⟨b, o, rfl, hel⟩ := elemAt hr hlt
      have hb := Hm.out.get hlt
      obtain ⟨x, hx⟩ : ∃ x : Nat, ga m k = (x : Int) := ⟨_, (Int.toNat_of_nonneg hb.1).symm⟩
      have Hx := Lib.hid hx
      rw [hx] at hel hb
      have hxl : x < t.length := by omega
      obtain ⟨b1, o1, b2, o2, c2, rfl, hc1, hc2⟩ := cfAt hD hxl
      have Hc2 := Lib.hid hc2
      clear hx hc2
      go_wp2_with fail
      go_loopw [6] (fun vi wr => ∃ j : Nat, j ≤ k ∧ vi = .int .i64 j ∧ (∀ j', j' < j → tz t (x : Int) (ga m j') ≤ 0) ∧ ∃ q, wr = w.drewN q) (fun vi _ => k - (intOf vi).toNat)
      case atStart => exact ⟨0, Nat.zero_le _, rfl, fun j h => by omega, _, rfl⟩
      case round =>
        obtain ⟨j, hj, rfl, hq, q2, rfl⟩ := hrel
        have Hq := Lib.hid hq
        clear hq
        by_cases hlt2 : j < k
        · obtain ⟨b3, o3, e3, hel2⟩ := elemAt hr (k := j) (by omega)
          obtain ⟨rfl, rfl⟩ : b = b3 ∧ o = o3 := by simpa using e3
          have hb2 := Hm.out.get (i := j) (by omega)
          obtain ⟨y, hy⟩ : ∃ y : Nat, ga m j = (y : Int) := ⟨_, (Int.toNat_of_nonneg hb2.1).symm⟩
          have Hy := Lib.hid hy
          rw [hy] at hel2 hb2
          have hyl : y < t.length := by omega
          have hc3 := Hc2.out y hyl
          have Htz := Lib.hid (tz_nat t x y)
          have hkm : (k : Int) < (m.length : Int) := by omega
          have hjm : (j : Int) < (m.length : Int) := by omega
          have hxt : (x : Int) < (t.length : Int) := by omega
          have hyt : (y : Int) < (t.length : Int) := by omega
          clear e3 hy
          by_cases hz : 0 < tc t x y
          · have H := Lib.hid (show false = clearB t m from (dec_not.mpr fun hcl => hcl _ (ga_mem (k := k) (by omega)) _ (ga_mem (k := j) (by omega)) (by rw [Hx.out, Hy.out, Htz.out]; exact hz)).symm)
            rw [decide_eq_true hz] at hc3
            clear hz
            go_wp2_with fail
            go_quiet (fail)
            go_wp2_with fail
            go_ret
            exact ⟨ret_bool H.out, below_drewN (below_drewN (Below.refl _ _) _) _⟩
          · have H := Lib.hid (show ∀ j', j' < j + 1 → tz t (x : Int) (ga m j') ≤ 0 from fun j' hj' => by
              by_cases e : j' = j
              · subst e; rw [Hy.out, Htz.out]; omega
              · exact Hq.out j' (by omega))
            rw [decide_eq_false hz] at hc3
            clear hz Hq
            go_wp2_with fail
            go_quiet (fail)
            go_wp2_with fail
            go_roundw
            case rel => exact ⟨j + 1, by omega, by go_num, H.out, _, rfl⟩
            case measure => simp [intOf]; omega
        · obtain rfl : j = k := by omega
          have H := Lib.hid (show ∀ i j', i < j + 1 → j' < i → tz t (ga m i) (ga m j') ≤ 0 from fun i j' h1 h2 => by
            by_cases e : i = j
            · subst e; rw [Hx.out]; exact Hq.out j' h2
            · exact Hp.out i j' (by omega) h2)
          clear Hq hlt2
          go_wp2_with fail
          go_roundw
          case rel => exact ⟨j + 1, by omega, by go_num, H.out, _, rfl⟩
          case measure => simp [intOf]; omega
    · obtain rfl : k = m.length := by omega
      have H := Lib.hid (show true = clearB t m from (dec_iff.mpr (clear_of Hc.out Hm.out fun i j h1 h2 => by have := Hp.out i j h1 h2; omega)).symm)
      clear Hp hlt
      go_wp2_with fail
      go_ret
      exact ⟨ret_bool H.out, below_drewN (Below.refl _ _) _⟩

theorem sAsc_v (m : List Int) (n : Nat) (v : Bool) (hv : validM n m = v) (A : Option Addr) (c : Nat) (w : World) (hr : RdL fI w A m) (hl : m.length ≤ 1000000000) (hn : n ≤ 1000000000) :
    Calls Try.prog 83 #[.slice A m.length c, .int .i64 0, .int .i64 ((n : Int) - 1)] w fun e w' => e = .returned (.bool v) ∧ Below w.heap.size w w' := by rw [← hv]; exact sAsc_any m n A c w hr hl hn
set_option maxHeartbeats 800000 in
theorem sWatch_any (t h : List (List Int)) (T C : Option Addr) (c d : Nat) (w : World) (hr : RdSS fI w T t) (hh : RdSS fI w C h) (hn : t.length ≤ 1000000000) (hl : ∀ k, k < t.length → (gm t k).length ≤ 1000000000) (hn2 : h.length ≤ 1000000000) (hl2 : ∀ k, k < h.length → (gm h k).length ≤ 1000000000) :
    Calls Try.prog 59 #[.slice T t.length c, .slice C h.length d] w fun e w' => e = .returned (.bool (validW t h)) ∧ Below w.heap.size w w' := by
  go_enter Try.func59, Try.ntmps59
  cases hv : validC t with
  | false =>
    have H := Lib.hid (show false = validW t h from (dec_not.mpr fun g => (dec_not.mp hv) g.c).symm)
    go_wp2_with fail
    refine (sValC_v t false hv T c _ hr hn hl).mono ?_
    rintro e w1 ⟨rfl, v1⟩
    clear hv
    go_wp2_with fail
    go_ret
    exact ⟨ret_bool H.out, v1⟩
  | true =>
    have Hc := Lib.hid (dec_iff.mp hv)
    have hn8 := Hc.out.n2
    go_wp2_with fail
    refine (sValC_v t true hv T c _ hr hn hl).mono ?_
    rintro e w1 ⟨rfl, v1⟩
    clear hv
    by_cases h150 : 150 < h.length
    · have H := Lib.hid (show false = validW t h from (dec_not.mpr fun g => by have := g.l; omega).symm)
      go_wp2_with fail
      go_ret
      exact ⟨ret_bool H.out, v1⟩
    go_wp2_with fail
    go_loopw [5] (fun vi wr => ∃ k : Nat, k ≤ h.length ∧ vi = .int .i64 k ∧ (∀ j, j < k → GoodM t.length (gm h j)) ∧ Below w.heap.size w wr) (fun vi _ => h.length - (intOf vi).toNat)
    case atStart => exact ⟨0, Nat.zero_le _, rfl, fun j hj => by omega, v1⟩
    case round =>
      clear v1
      obtain ⟨k, hk, rfl, hp, hB⟩ := hrel
      have Hp := Lib.hid hp
      clear hp
      by_cases hlt : k < h.length
      · obtain ⟨b, o, A, c', rfl, hcw, hrd⟩ := rowAt hh hlt
        have hcell := (hB.cell (World.block_lt_of_cell? w _ hcw)).trans hcw
        have hrd2 := hrd.below hB
        cases hm : validM t.length (gm h k) with
        | false =>
          have hct := sAsc_v (gm h k) t.length false hm A c' wr hrd2 (hl2 k hlt) hn
          have H := Lib.hid (show false = validW t h from (dec_not.mpr fun g => (dec_not.mp hm) (g.m k hlt)).symm)
          clear hm hcw hrd
          go_wp2_with fail
          refine hct.mono ?_
          rintro e w2 ⟨rfl, v2⟩
          have hB2 := hB.trans (v2.mono hB.size)
          clear hct v2 hB
          go_wp2_with fail
          go_ret
          exact ⟨ret_bool H.out, hB2⟩
        | true =>
          have hct := sAsc_v (gm h k) t.length true hm A c' wr hrd2 (hl2 k hlt) hn
          have H := Lib.hid (show ∀ j, j < k + 1 → GoodM t.length (gm h j) from fun j hj => by
            by_cases e : j = k
            · subst e; exact dec_iff.mp hm
            · exact Hp.out j (by omega))
          clear hm hcw hrd Hp
          go_wp2_with fail
          refine hct.mono ?_
          rintro e w2 ⟨rfl, v2⟩
          have hB2 := hB.trans (v2.mono hB.size)
          clear hct v2 hB
          go_wp2_with fail
          go_roundw
          case rel => exact ⟨k + 1, by omega, by go_num, H.out, hB2⟩
          case measure => simp [intOf]; omega
      · obtain rfl : k = h.length := by omega
        have H := Lib.hid (show true = validW t h from (dec_iff.mpr ⟨Hc.out, by omega, Hp.out⟩).symm)
        clear Hp hlt
        go_wp2_with fail
        go_ret
        exact ⟨ret_bool H.out, hB⟩

/-- A movement that had green within its clearance time. -/
def EarlyR (t h : List (List Int)) (k : Nat) (b : Int) : Prop := ∃ back : Nat, 1 ≤ back ∧ back ≤ k ∧ back ≤ 5 ∧ ∃ i, i < (gm h (k - back)).length ∧ (back : Int) ≤ tz t (ga (gm h (k - back)) i) b
noncomputable def earB (t h : List (List Int)) (k : Nat) (b : Int) : Bool := dec (EarlyR t h k b)
set_option maxHeartbeats 1600000 in
theorem sEarly_any (t h : List (List Int)) (k x : Nat) (T C : Option Addr) (c d : Nat) (w : World) (hr : RdSS fI w T t) (hh : RdSS fI w C h) (hg : GoodW t h) (hk : k < h.length) (hx : x < t.length) :
    Calls Try.prog 86 #[.slice T t.length c, .slice C h.length d, .int .i64 (k : Int), .int .i64 (x : Int)] w fun e w' => e = .returned (.bool (earB t h k (x : Int))) ∧ Below w.heap.size w w' := by
  have hk150 := hg.l
  have hn8 := hg.c.n2
  have Hg := Lib.hid hg
  clear hg
  go_enter Try.func86, Try.ntmps86
  go_wp2_with fail
  go_loopw [9] (fun vi wr => ∃ q : Nat, 1 ≤ q ∧ q ≤ 6 ∧ vi = .int .i64 q ∧ (∀ back, 1 ≤ back → back < q → back ≤ k → ∀ i, i < (gm h (k - back)).length → tz t (ga (gm h (k - back)) i) (x : Int) < (back : Int)) ∧ ∃ n, wr = w.drewN n) (fun vi _ => 6 - (intOf vi).toNat)
  case atStart => exact ⟨1, Nat.le_refl _, by omega, rfl, fun back h1 h2 => by omega, 0, rfl⟩
  case round =>
    obtain ⟨q, hq1, hq6, rfl, hp, n, rfl⟩ := hrel
    have Hp := Lib.hid hp
    clear hp
    have hfin : ¬ (q ≤ k ∧ q ≤ 5) → false = earB t h k (x : Int) := fun hn => (dec_not.mpr (by
      rintro ⟨back, h1, h2, h3, i, hi, h4⟩
      have := Hp.out back h1 (by omega) h2 i hi
      omega)).symm
    have Hfin := Lib.hid hfin
    clear hfin
    by_cases hle : q ≤ k
    case neg =>
      have H := Lib.hid (Hfin.out (fun h => hle h.1))
      clear Hfin Hp
      go_wp2_with fail
      go_ret
      exact ⟨ret_bool H.out, below_drewN (Below.refl _ _) _⟩
    by_cases hle5 : q ≤ 5
    case neg =>
      have H := Lib.hid (Hfin.out (fun h => hle5 h.2))
      clear Hfin Hp
      go_wp2_with fail
      go_ret
      exact ⟨ret_bool H.out, below_drewN (Below.refl _ _) _⟩
    obtain ⟨p, hpq⟩ : ∃ p : Nat, (k : Int) - (q : Int) = (p : Int) := ⟨k - q, by omega⟩
    have hpk : p = k - q := by omega
    have Hpk := Lib.hid hpk
    have hph : p < h.length := by omega
    obtain ⟨b, o, A, c', rfl, hcell, hrd⟩ := rowAt hh hph
    have hmp := Hg.out.m p hph
    have Hmp := Lib.hid hmp
    have hml := hmp.len
    obtain ⟨m, hm⟩ : ∃ m, m = gm h p := ⟨_, rfl⟩
    have Hm := Lib.hid hm
    rw [← hm] at hcell hrd hml
    clear hpk hmp hm Hfin
    go_wp2_with fail
    go_loopw [10] (fun vi wr => ∃ i : Nat, i ≤ m.length ∧ vi = .int .i64 i ∧ (∀ i', i' < i → tz t (ga m i') (x : Int) < (q : Int)) ∧ ∃ n, wr = w.drewN n) (fun vi _ => m.length - (intOf vi).toNat)
    case atStart => exact ⟨0, Nat.zero_le _, rfl, fun i' h => by omega, _, rfl⟩
    case round =>
      obtain ⟨i, hi, rfl, hs, n2, rfl⟩ := hrel
      have Hs := Lib.hid hs
      clear hs
      by_cases hlt : i < m.length
      · obtain ⟨b1, o1, rfl, hel⟩ := elemAt hrd hlt
        have hb := Hmp.out.get (i := i) (by rw [← Hm.out]; exact hlt)
        rw [← Hm.out] at hb
        obtain ⟨y, hy⟩ : ∃ y : Nat, ga m i = (y : Int) := ⟨_, (Int.toNat_of_nonneg hb.1).symm⟩
        have Hy := Lib.hid hy
        rw [hy] at hel hb
        have hyl : y < t.length := by omega
        obtain ⟨b2, o2, A2, c2, rfl, hc2, hr2⟩ := rowAt hr hyl
        rw [Hg.out.c.rl y hyl] at hc2
        obtain ⟨b3, o3, rfl, hel3⟩ := elemAt hr2 (k := x) (by rw [Hg.out.c.rl y hyl]; exact hx)
        rw [show ga (gm t y) x = tc t y x from rfl] at hel3
        have Htz := Lib.hid (tz_nat t y x)
        clear hy hr2
        by_cases hz : (q : Int) ≤ tc t y x
        · have H := Lib.hid (show true = earB t h k (x : Int) from (dec_iff.mpr ⟨q, hq1, hle, hle5, i, by rw [← Hpk.out, ← Hm.out]; exact hlt, by rw [← Hpk.out, ← Hm.out, Hy.out, Htz.out]; exact hz⟩).symm)
          generalize tc t y x = z at *
          go_wp2_with fail
          go_ret
          exact ⟨ret_bool H.out, below_drewN (Below.refl _ _) _⟩
        · have H := Lib.hid (show ∀ i', i' < i + 1 → tz t (ga m i') (x : Int) < (q : Int) from fun i' hi' => by
            by_cases e : i' = i
            · subst e; rw [Hy.out, Htz.out]; omega
            · exact Hs.out i' (by omega))
          generalize tc t y x = z at *
          clear Hs
          go_wp2_with fail
          go_roundw
          case rel => exact ⟨i + 1, by omega, by go_num, H.out, _, rfl⟩
          case measure => simp [intOf]; omega
      · obtain rfl : i = m.length := by omega
        have H := Lib.hid (show ∀ back, 1 ≤ back → back < q + 1 → back ≤ k → ∀ i, i < (gm h (k - back)).length → tz t (ga (gm h (k - back)) i) (x : Int) < (back : Int) from fun back h1 h2 h3 i hi => by
          by_cases e : back = q
          · subst e
            rw [← Hpk.out, ← Hm.out] at hi ⊢
            exact Hs.out i hi
          · exact Hp.out back h1 (by omega) h3 i hi)
        clear Hs Hp hlt
        go_wp2_with fail
        go_roundw
        case rel => exact ⟨q + 1, by omega, by omega, by go_num, H.out, _, rfl⟩
        case measure => simp [intOf]; omega
end Go.Proofs.Ytcckipckgnkieaa
