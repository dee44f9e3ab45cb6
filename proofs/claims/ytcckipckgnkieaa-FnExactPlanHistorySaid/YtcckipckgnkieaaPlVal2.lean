/-
  Tables of clearance times and moves: the reference's validity; moves.
-/
import Derived.Test.YtcckipckgnkieaaPlVal
namespace Go.Proofs.Ytcckipckgnkieaa
open Go.RowKit
set_option linter.unusedVariables false

def Sok (t : List (List Int)) (k : Nat) : Prop := ∀ a, a < k → (gm t a).length = t.length ∧ allB (gm t a) 0 5 = true ∧ tc t a a = 0 ∧ ∀ b, b < a → (0 < tc t a b ↔ 0 < tc t b a)
theorem goodC_sok {t : List (List Int)} (h1 : 1 ≤ t.length) (h2 : t.length ≤ 8) (h : Sok t t.length) : GoodC t := by
  have hr : RowsOk t t.length := fun a ha => ⟨(h a ha).1, (h a ha).2.1⟩
  refine ⟨h1, h2, fun a ha => (h a ha).1, fun a b ha hb => hr.bd ha hb, fun a b ha hb => ?_, fun a ha => (h a ha).2.2.1⟩
  rcases Nat.lt_trichotomy a b with hl | hl | hl
  · exact ((h b hb).2.2.2 a hl).symm
  · subst hl; exact Iff.rfl
  · exact (h a ha).2.2.2 b hl
set_option maxHeartbeats 1600000 in
theorem sValC_any (t : List (List Int)) (T : Option Addr) (c : Nat) (w : World) (hr : RdSS fI w T t) (hn : t.length ≤ 1000000000) (hl : ∀ k, k < t.length → (gm t k).length ≤ 1000000000) :
    Calls Try.prog 71 #[.slice T t.length c] w fun e w' => e = .returned (.bool (validC t)) ∧ Below w.heap.size w w' := by
  go_enter Try.func71, Try.ntmps71
  go_wp2_with fail
  refine (inRange_any _ _ _ _).mono ?_
  rintro e w' ⟨rfl, rfl⟩
  cases hi : inB (t.length : Int) 1 8 with
  | false =>
    have H := Lib.hid (show false = validC t from (validC_no fun h => by
      have : inB (t.length : Int) 1 8 = true := inB_iff.mpr (by have := h.n1; have := h.n2; omega)
      rw [hi] at this; cases this).symm)
    clear hi
    go_wp2_with fail
    go_ret
    exact ⟨ret_bool H.out, Below.refl _ _⟩
  | true =>
    obtain ⟨hn1, hn8⟩ := inB_iff.mp hi
    clear hi
    go_wp2_with fail
    go_loopw [4] (fun vi wr => ∃ k : Nat, k ≤ t.length ∧ vi = .int .i64 k ∧ Sok t k ∧ ∃ m, wr = w.drewN m) (fun vi _ => t.length - (intOf vi).toNat)
    case atStart => exact ⟨0, Nat.zero_le _, rfl, fun a h => by omega, 0, rfl⟩
    case round =>
      obtain ⟨k, hk, rfl, hok, m, rfl⟩ := hrel
      by_cases hlt : k < t.length
      · obtain ⟨b, o, A, c', rfl, hcell, hrd⟩ := rowAt hr hlt
        have hlk := hl k hlt
        have hrd2 := hrd.below (below_drewN (Below.refl _ _) m)
        have Hok := Lib.hid hok
        clear hok
        by_cases hm : (gm t k).length = t.length
        case neg =>
          have hm1 : ((((gm t k).length : Nat) : Int) != ((t.length : Nat) : Int)) = true := by simp [bne]; omega
          have H := Lib.hid (show false = validC t from (validC_no fun h => hm (h.rl k hlt)).symm)
          clear hm Hok
          generalize (gm t k).length = n at *
          go_wp2_with fail
          go_ret
          exact ⟨ret_bool H.out, below_drewN (Below.refl _ _) _⟩
        have hm1 : ((((gm t k).length : Nat) : Int) != ((t.length : Nat) : Int)) = false := by rw [hm]; simp
        have Hm := Lib.hid hm
        have hct := allIn_any (gm t k) 0 5 A c' _ hrd2 (by omega)
        cases ha : allB (gm t k) 0 5 with
        | false =>
          have H := Lib.hid (show false = validC t from (validC_no fun h => by rw [(goodC_rows h k hlt).2] at ha; cases ha).symm)
          rw [ha] at hct
          clear ha hm Hok Hm
          generalize (gm t k).length = n at *
          go_wp2_with fail
          refine hct.mono ?_
          rintro e w' ⟨rfl, rfl⟩
          clear hct
          go_wp2_with fail
          go_ret
          exact ⟨ret_bool H.out, below_drewN (Below.refl _ _) _⟩
        | true =>
          rw [ha] at hct
          have Ha := Lib.hid ha
          clear ha hm
          obtain ⟨bx, ox, rfl, hel⟩ := elemAt hrd (k := k) (by rw [Hm.out]; exact hlt)
          rw [show ga (gm t k) k = tc t k k from rfl] at hel
          have hkl : (k : Int) < (((gm t k).length : Nat) : Int) := by rw [Hm.out]; omega
          by_cases hx : tc t k k = 0
          case neg =>
            have H := Lib.hid (show false = validC t from (validC_no fun g => hx (g.di k hlt)).symm)
            have hx0 : (tc t k k != 0) = true := by simp [bne, hx]
            clear hx Hok Hm
            generalize tc t k k = x at *
            generalize (gm t k).length = n at *
            go_wp2_with fail
            refine hct.mono ?_
            rintro e w' ⟨rfl, rfl⟩
            clear hct
            go_wp2_with fail
            go_ret
            exact ⟨ret_bool H.out, below_drewN (Below.refl _ _) _⟩
          have Hx := Lib.hid hx
          have hx0 : (tc t k k != 0) = false := by simp [bne, hx]
          clear hx
          obtain ⟨x, hxx⟩ : ∃ x, x = tc t k k := ⟨_, rfl⟩
          rw [← hxx] at hel hx0
          clear hxx
          obtain ⟨n, hnn⟩ : ∃ n, n = (gm t k).length := ⟨_, rfl⟩
          rw [← hnn] at hct hcell hm1 hkl hlk
          clear hnn
          go_wp2_with fail
          refine hct.mono ?_
          rintro e w' ⟨rfl, rfl⟩
          clear hct
          go_wp2_with fail
          go_loopw [5] (fun vi wr => ∃ j : Nat, j ≤ k ∧ vi = .int .i64 j ∧ (∀ b, b < j → (0 < tc t k b ↔ 0 < tc t b k)) ∧ ∃ m, wr = w.drewN m) (fun vi _ => k - (intOf vi).toNat)
          case atStart => exact ⟨0, Nat.zero_le _, rfl, fun b h => by omega, _, rfl⟩
          case round =>
            obtain ⟨j, hj, rfl, hq, m3, rfl⟩ := hrel
            have Hq := Lib.hid hq
            clear hq
            by_cases hlt2 : j < k
            · have hjt : j < t.length := by omega
              obtain ⟨b2, o2, e2, hel2⟩ := elemAt hrd (k := j) (by rw [Hm.out]; exact hjt)
              obtain ⟨rfl, rfl⟩ : bx = b2 ∧ ox = o2 := by simpa using e2
              obtain ⟨b3, o3, A3, c3, e3, hcell3, hrd3⟩ := rowAt hr hjt
              obtain ⟨rfl, rfl⟩ : b = b3 ∧ o = o3 := by simpa using e3
              have hrj := (Hok.out j (by omega)).1
              obtain ⟨b4, o4, rfl, hel4⟩ := elemAt hrd3 (k := k) (by rw [hrj]; exact hlt)
              rw [hrj] at hcell3
              rw [show ga (gm t k) j = tc t k j from rfl] at hel2
              rw [show ga (gm t j) k = tc t j k from rfl] at hel4
              have hjn : (j : Int) < (n : Int) := by omega
              have Hno := Lib.hid (fun h : ¬ (0 < tc t k j ↔ 0 < tc t j k) => show false = validC t from (validC_no fun g => h (g.sy k j hlt hjt)).symm)
              have Hyes := Lib.hid (fun h : (0 < tc t k j ↔ 0 < tc t j k) => show ∀ b, b < j + 1 → (0 < tc t k b ↔ 0 < tc t b k) from fun b hb => by
                by_cases e : b = j
                · subst e; exact h
                · exact Hq.out b (by omega))
              clear Hq e2 e3 hrj hrd3 hel
              generalize tc t k j = y at *
              generalize tc t j k = z at *
              by_cases hy : 0 < y <;> by_cases hz : 0 < z
              · have H := Lib.hid (Hyes.out ⟨fun _ => hz, fun _ => hy⟩)
                have f1 : decide (0 < y) = true := decide_eq_true hy
                have f2 : decide (0 < z) = true := decide_eq_true hz
                clear Hno Hyes
                go_wp2_with fail
                go_quiet (fail)
                go_wp2_with fail
                go_roundw
                case rel => exact ⟨j + 1, by omega, by go_num, H.out, _, rfl⟩
                case measure => simp [intOf]; omega
              · have H := Lib.hid (Hno.out (fun h => hz (h.mp hy)))
                have f1 : decide (0 < y) = true := decide_eq_true hy
                have f2 : decide (0 < z) = false := decide_eq_false hz
                clear Hno Hyes
                go_wp2_with fail
                go_quiet (fail)
                go_wp2_with fail
                go_ret
                exact ⟨ret_bool H.out, below_drewN (below_drewN (Below.refl _ _) _) _⟩
              · have H := Lib.hid (Hno.out (fun h => hy (h.mpr hz)))
                have f1 : decide (0 < y) = false := decide_eq_false hy
                have f2 : decide (0 < z) = true := decide_eq_true hz
                clear Hno Hyes
                go_wp2_with fail
                go_quiet (fail)
                go_wp2_with fail
                go_ret
                exact ⟨ret_bool H.out, below_drewN (below_drewN (Below.refl _ _) _) _⟩
              · have H := Lib.hid (Hyes.out ⟨fun h => absurd h hy, fun h => absurd h hz⟩)
                have f1 : decide (0 < y) = false := decide_eq_false hy
                have f2 : decide (0 < z) = false := decide_eq_false hz
                clear Hno Hyes
                go_wp2_with fail
                go_quiet (fail)
                go_wp2_with fail
                go_roundw
                case rel => exact ⟨j + 1, by omega, by go_num, H.out, _, rfl⟩
                case measure => simp [intOf]; omega
            · obtain rfl : j = k := by omega
              have H := Lib.hid (show Sok t (j + 1) from fun a ha => by
                by_cases e : a = j
                · subst e; exact ⟨Hm.out, Ha.out, Hx.out, Hq.out⟩
                · exact Hok.out a (by omega))
              clear Hq hlt2
              go_wp2_with fail
              go_roundw
              case rel => exact ⟨j + 1, by omega, by go_num, H.out, _, rfl⟩
              case measure => simp [intOf]; omega
      · obtain rfl : k = t.length := by omega
        have H := Lib.hid (show true = validC t from (dec_iff.mpr (goodC_sok (by omega) (by omega) hok)).symm)
        clear hok hlt
        go_wp2_with fail
        go_ret
        exact ⟨ret_bool H.out, below_drewN (Below.refl _ _) _⟩

/-! ### moves -/
theorem goodM_iff {n : Nat} {m : List Int} : GoodM n m ↔ allB m 0 ((n : Int) - 1) = true ∧ ∀ i, i + 1 < m.length → ga m i < ga m (i + 1) := by
  constructor
  · intro h
    exact ⟨allB_iff.mpr fun k hk => by have := h.get hk; omega, fun i hi => asc_lt h.asc (by omega) hi⟩
  · rintro ⟨h1, h2⟩
    refine ⟨fun x hx => ?_, asc_of h2⟩
    obtain ⟨k, hk, rfl⟩ := mem_ga hx
    have := allB_iff.mp h1 k hk
    omega
theorem validM_no {n : Nat} {m : List Int} (h : ¬ GoodM n m) : validM n m = false := dec_not.mpr h
set_option maxHeartbeats 800000 in
theorem iValM_any (m : List Int) (n : Nat) (A : Option Addr) (c : Nat) (w : World) (hr : RdL fI w A m) (hl : m.length ≤ 1000000000) (hn : n ≤ 1000000000) :
    Calls Try.prog 54 #[.slice A m.length c, .int .i64 (n : Int)] w fun e w' => e = .returned (.bool (validM n m)) ∧ Below w.heap.size w w' := by
  have hct := allWithin_any m 0 ((n : Int) - 1) A c w hr (by omega)
  go_enter Try.func54, Try.ntmps54
  cases ha : allB m 0 ((n : Int) - 1) with
  | false =>
    have H := Lib.hid (show false = validM n m from (validM_no fun h => by rw [(goodM_iff.mp h).1] at ha; cases ha).symm)
    rw [ha] at hct
    clear ha
    go_wp2_with fail
    refine hct.mono ?_
    rintro e w' ⟨rfl, rfl⟩
    clear hct
    go_wp2_with fail
    go_ret
    exact ⟨ret_bool H.out, Below.refl _ _⟩
  | true =>
    rw [ha] at hct
    have Ha := Lib.hid ha
    clear ha
    go_wp2_with fail
    refine hct.mono ?_
    rintro e w' ⟨rfl, rfl⟩
    clear hct
    go_wp2_with fail
    go_loopw [5] (fun vi wr => ∃ j : Nat, (j < m.length ∨ j = 0) ∧ vi = .int .i64 ((j : Int) + 1) ∧ (∀ i, i < j → ga m i < ga m (i + 1)) ∧ ∃ q, wr = w.drewN q) (fun vi _ => m.length - (intOf vi).toNat)
    case atStart => exact ⟨0, .inr rfl, rfl, fun i h => by omega, 0, rfl⟩
    case round =>
      obtain ⟨j, hj, rfl, hp, q, rfl⟩ := hrel
      have Hp := Lib.hid hp
      clear hp
      by_cases hlt : j + 1 < m.length
      · obtain ⟨b, o, rfl, h1⟩ := elemAt hr (k := j) (by omega)
        obtain ⟨b2, o2, e2, h2⟩ := elemAt hr hlt
        obtain ⟨rfl, rfl⟩ : b = b2 ∧ o = o2 := by simpa using e2
        have hlt2 : (j : Int) + 1 < (m.length : Int) := by omega
        have hlt3 : (j : Int) < (m.length : Int) := by omega
        have Hno := Lib.hid (fun h : ¬ ga m j < ga m (j + 1) => show false = validM n m from (validM_no fun g => h ((goodM_iff.mp g).2 j hlt)).symm)
        have Hyes := Lib.hid (fun h : ga m j < ga m (j + 1) => show ∀ i, i < j + 1 → ga m i < ga m (i + 1) from fun i hi => by
          by_cases e : i = j
          · subst e; exact h
          · exact Hp.out i (by omega))
        clear Hp e2
        generalize ga m (j + 1) = y at *
        generalize ga m j = x at *
        by_cases hxy : x < y
        · have H := Lib.hid (Hyes.out hxy)
          have f1 : decide (y ≤ x) = false := decide_eq_false (by omega)
          clear Hno Hyes
          go_wp2_with fail
          go_quiet (fail)
          go_wp2_with fail
          go_roundw
          case rel => exact ⟨j + 1, .inl hlt, by go_num, H.out, _, rfl⟩
          case measure => simp [intOf]; omega
        · have H := Lib.hid (Hno.out hxy)
          have f1 : decide (y ≤ x) = true := decide_eq_true (by omega)
          clear Hno Hyes
          go_wp2_with fail
          go_quiet (fail)
          go_wp2_with fail
          go_ret
          exact ⟨ret_bool H.out, below_drewN (below_drewN (Below.refl _ _) _) _⟩
      · have H := Lib.hid (show true = validM n m from (dec_iff.mpr (goodM_iff.mpr ⟨Ha.out, fun i hi => Hp.out i (by omega)⟩)).symm)
        clear Hp
        have hge : ¬ (j : Int) + 1 < (m.length : Int) := by omega
        go_wp2_with fail
        go_ret
        exact ⟨ret_bool H.out, below_drewN (Below.refl _ _) _⟩
set_option maxHeartbeats 800000 in
theorem sAsc_any (m : List Int) (n : Nat) (A : Option Addr) (c : Nat) (w : World) (hr : RdL fI w A m) (hl : m.length ≤ 1000000000) (hn : n ≤ 1000000000) :
    Calls Try.prog 83 #[.slice A m.length c, .int .i64 0, .int .i64 ((n : Int) - 1)] w fun e w' => e = .returned (.bool (validM n m)) ∧ Below w.heap.size w w' := by
  go_enter Try.func83, Try.ntmps83
  go_wp2_with fail
  go_loopw [7] (fun vi wr => ∃ j : Nat, (j < m.length ∨ j = 0) ∧ vi = .int .i64 ((j : Int) + 1) ∧ (∀ i, i < j → ga m i < ga m (i + 1)) ∧ ∃ q, wr = w.drewN q) (fun vi _ => m.length - (intOf vi).toNat)
  case atStart => exact ⟨0, .inr rfl, rfl, fun i h => by omega, 0, rfl⟩
  case round =>
    obtain ⟨j, hj, rfl, hp, q, rfl⟩ := hrel
    have Hp := Lib.hid hp
    clear hp
    by_cases hlt : j + 1 < m.length
    · obtain ⟨b, o, rfl, h1⟩ := elemAt hr (k := j) (by omega)
      obtain ⟨b2, o2, e2, h2⟩ := elemAt hr hlt
      obtain ⟨rfl, rfl⟩ : b = b2 ∧ o = o2 := by simpa using e2
      have hlt2 : (j : Int) + 1 < (m.length : Int) := by omega
      have hlt3 : (j : Int) < (m.length : Int) := by omega
      have Hno := Lib.hid (fun h : ¬ ga m j < ga m (j + 1) => show false = validM n m from (validM_no fun g => h ((goodM_iff.mp g).2 j hlt)).symm)
      have Hyes := Lib.hid (fun h : ga m j < ga m (j + 1) => show ∀ i, i < j + 1 → ga m i < ga m (i + 1) from fun i hi => by
        by_cases e : i = j
        · subst e; exact h
        · exact Hp.out i (by omega))
      clear Hp e2
      generalize ga m (j + 1) = y at *
      generalize ga m j = x at *
      by_cases hxy : x < y
      · have H := Lib.hid (Hyes.out hxy)
        have f1 : decide (y ≤ x) = false := decide_eq_false (by omega)
        clear Hno Hyes
        go_wp2_with fail
        go_quiet (fail)
        go_wp2_with fail
        go_roundw
        case rel => exact ⟨j + 1, .inl hlt, by go_num, H.out, _, rfl⟩
        case measure => simp [intOf]; omega
      · have H := Lib.hid (Hno.out hxy)
        have f1 : decide (y ≤ x) = true := decide_eq_true (by omega)
        clear Hno Hyes
        go_wp2_with fail
        go_quiet (fail)
        go_wp2_with fail
        go_ret
        exact ⟨ret_bool H.out, below_drewN (below_drewN (Below.refl _ _) _) _⟩
    · have hct := allIn_any m 0 ((n : Int) - 1) A c (w.drewN q) (hr.below (below_drewN (Below.refl _ _) _)) (by omega)
      have hge : ¬ (j : Int) + 1 < (m.length : Int) := by omega
      have H := Lib.hid (show allB m 0 ((n : Int) - 1) = validM n m by
        cases ha : allB m 0 ((n : Int) - 1) with
        | true => exact (dec_iff.mpr (goodM_iff.mpr ⟨ha, fun i hi => Hp.out i (by omega)⟩)).symm
        | false => exact (validM_no fun h => by rw [(goodM_iff.mp h).1] at ha; cases ha).symm)
      clear Hp
      go_wp2_with fail
      refine hct.mono ?_
      rintro e w' ⟨rfl, rfl⟩
      clear hct
      go_wp2_with fail
      go_ret
      exact ⟨ret_bool H.out, below_drewN (Below.refl _ _) _⟩
end Go.Proofs.Ytcckipckgnkieaa
