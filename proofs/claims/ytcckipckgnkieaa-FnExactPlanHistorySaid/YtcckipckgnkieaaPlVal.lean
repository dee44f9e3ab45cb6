/-
  Tables of clearance times and moves: which are valid.
-/
import Derived.Test.YtcckipckgnkieaaPlMath
import Derived.Test.YtcckipckgnkieaaSs
namespace Go.Proofs.Ytcckipckgnkieaa
open Go.RowKit
set_option linter.unusedVariables false

theorem rowAt {w : World} {T : Option Addr} {t : List (List Int)} (h : RdSS fI w T t) {a : Nat} (ha : a < t.length) :
    ∃ b o A c, T = some ⟨b, o, none⟩ ∧ w.cell? ⟨b, o + a, none⟩ = some (.slice A (gm t a).length c) ∧ RdL fI w A (gm t a) := by
  obtain ⟨b, o, A, c, h1, h2, h3⟩ := h.at ha
  rw [gm_at ha] at h2 h3
  exact ⟨b, o, A, c, h1, h2, h3⟩
theorem elemAt {w : World} {A : Option Addr} {xs : List Int} (h : RdL fI w A xs) {k : Nat} (hk : k < xs.length) :
    ∃ b o, A = some ⟨b, o, none⟩ ∧ w.cell? ⟨b, o + k, none⟩ = some (.int .i64 (ga xs k)) := by
  obtain ⟨b, o, h1, h2⟩ := h.at hk
  rw [ga_at hk] at h2
  exact ⟨b, o, h1, h2⟩
theorem inB_iff {x lo hi : Int} : inB x lo hi = true ↔ lo ≤ x ∧ x ≤ hi := by simp [inB]
theorem allB_iff {zs : List Int} {lo hi : Int} : allB zs lo hi = true ↔ ∀ k, k < zs.length → lo ≤ ga zs k ∧ ga zs k ≤ hi := by
  constructor
  · intro h k hk
    have := List.all_eq_true.mp h _ (List.getElem_mem hk)
    simp [inB] at this
    rwa [ga_at hk] at this
  · intro h
    refine List.all_eq_true.mpr fun z hz => ?_
    obtain ⟨k, hk, rfl⟩ := List.getElem_of_mem hz
    have := h k hk
    rw [ga_at hk]
    simp [inB, this]
theorem validC_no {t : List (List Int)} (h : ¬ GoodC t) : validC t = false := dec_not.mpr h
/-- What the first loop has shown. -/
def RowsOk (t : List (List Int)) (k : Nat) : Prop := ∀ a, a < k → (gm t a).length = t.length ∧ allB (gm t a) 0 5 = true
theorem RowsOk.bd {t : List (List Int)} {n : Nat} (h : RowsOk t n) {a b : Nat} (ha : a < n) (hb : b < t.length) : 0 ≤ tc t a b ∧ tc t a b ≤ 5 := by
  obtain ⟨h1, h2⟩ := h a ha
  exact allB_iff.mp h2 b (by omega)
def PairsOk (t : List (List Int)) (P : Nat → Nat → Prop) : Prop := ∀ a b, P a b → (0 < tc t a b ↔ 0 < tc t b a) ∧ (a = b → tc t a b = 0)
theorem goodC_of {t : List (List Int)} (h1 : 1 ≤ t.length) (h2 : t.length ≤ 8) (h3 : RowsOk t t.length) (h4 : PairsOk t fun a b => a < t.length ∧ b < t.length) : GoodC t :=
  ⟨h1, h2, fun a ha => (h3 a ha).1, fun a b ha hb => h3.bd ha hb, fun a b ha hb => (h4 a b ⟨ha, hb⟩).1, fun a ha => (h4 a a ⟨ha, ha⟩).2 rfl⟩
theorem goodC_rows {t : List (List Int)} (h : GoodC t) : RowsOk t t.length := fun a ha => ⟨h.rl a ha, allB_iff.mpr fun k hk => h.bd a k ha (by rw [h.rl a ha] at hk; exact hk)⟩

set_option maxHeartbeats 1600000 in
theorem iValC_any (t : List (List Int)) (T : Option Addr) (c : Nat) (w : World) (hr : RdSS fI w T t) (hn : t.length ≤ 1000000000) (hl : ∀ k, k < t.length → (gm t k).length ≤ 1000000000) :
    Calls Try.prog 53 #[.slice T t.length c] w fun e w' => e = .returned (.bool (validC t)) ∧ Below w.heap.size w w' := by
  go_enter Try.func53, Try.ntmps53
  go_wp2_with fail
  refine (within_any _ _ _ _).mono ?_
  rintro e w' ⟨rfl, rfl⟩
  cases hi : inB (t.length : Int) 1 8 with
  | false =>
    have H := Lib.hid (show false = validC t from (validC_no fun h => by
      have : inB (t.length : Int) 1 8 = true := inB_iff.mpr (by have := h.n1; have := h.n2; omega)
      rw [hi] at this; cases this).symm)
    clear hi
    go_wp2_with fail
    go_ret
    exact ⟨ret_bool H.out, Below.refl _ _⟩
  | true =>
    obtain ⟨hn1, hn8⟩ := inB_iff.mp hi
    clear hi
    go_wp2_with fail
    go_loopw [15] (fun vi wr => ∃ k : Nat, k ≤ t.length ∧ vi = .int .i64 k ∧ RowsOk t k ∧ ∃ m, wr = w.drewN m) (fun vi _ => t.length - (intOf vi).toNat)
    case atStart => exact ⟨0, Nat.zero_le _, rfl, fun a h => by omega, 0, rfl⟩
    case round =>
      obtain ⟨k, hk, rfl, hok, m, rfl⟩ := hrel
      by_cases hlt : k < t.length
      · obtain ⟨b, o, A, c', rfl, hcell, hrd⟩ := rowAt hr hlt
        have hlk := hl k hlt
        have hrd2 := hrd.below (below_drewN (Below.refl _ _) m)
        have Hok := Lib.hid hok
        clear hok hrd
        by_cases hm : (gm t k).length = t.length
        · have hm1 : ((((gm t k).length : Nat) : Int) != ((t.length : Nat) : Int)) = false := by rw [hm]; simp
          cases ha : allB (gm t k) 0 5 with
          | true =>
            have Hn := Lib.hid (show RowsOk t (k + 1) from fun a h => by
              by_cases e : a = k
              · subst e; exact ⟨hm, ha⟩
              · exact Hok.out a (by omega))
            have hct := allWithin_any (gm t k) 0 5 A c' _ hrd2 (by omega)
            rw [ha] at hct
            clear ha hm Hok
            generalize (gm t k).length = n at *
            go_wp2_with fail
            refine hct.mono ?_
            rintro e w' ⟨rfl, rfl⟩
            clear hct
            go_wp2_with fail
            go_roundw
            case rel => exact ⟨k + 1, by omega, by go_num, Hn.out, m, rfl⟩
            case measure => simp [intOf]; omega
          | false =>
            have H := Lib.hid (show false = validC t from (validC_no fun h => by rw [(goodC_rows h k hlt).2] at ha; cases ha).symm)
            have hct := allWithin_any (gm t k) 0 5 A c' _ hrd2 (by omega)
            rw [ha] at hct
            clear ha hm Hok
            generalize (gm t k).length = n at *
            go_wp2_with fail
            refine hct.mono ?_
            rintro e w' ⟨rfl, rfl⟩
            clear hct
            go_wp2_with fail
            go_ret
            exact ⟨ret_bool H.out, below_drewN (Below.refl _ _) _⟩
        · have hm1 : ((((gm t k).length : Nat) : Int) != ((t.length : Nat) : Int)) = true := by simp [bne]; omega
          have H := Lib.hid (show false = validC t from (validC_no fun h => hm (h.rl k hlt)).symm)
          clear hm Hok
          generalize (gm t k).length = n at *
          go_wp2_with fail
          go_ret
          exact ⟨ret_bool H.out, below_drewN (Below.refl _ _) _⟩
      · obtain rfl : k = t.length := by omega
        have Hok := Lib.hid hok
        clear hok hlt
        go_wp2_with fail
        go_loopw [32] (fun vi wr => ∃ k : Nat, k ≤ t.length ∧ vi = .int .i64 k ∧ PairsOk t (fun a b => a < k ∧ b < t.length) ∧ ∃ m, wr = w.drewN m) (fun vi _ => t.length - (intOf vi).toNat)
        case atStart => exact ⟨0, Nat.zero_le _, rfl, fun a b h => by omega, _, rfl⟩
        case round =>
          obtain ⟨k, hk, rfl, hp, m2, rfl⟩ := hrel
          by_cases hlt : k < t.length
          · obtain ⟨b, o, A, c', rfl, hcell, hrd⟩ := rowAt hr hlt
            have hrk := (Hok.out k hlt).1
            rw [hrk] at hcell
            have Hrk := Lib.hid hrk
            have Hp := Lib.hid hp
            clear hrk hp
            go_wp2_with fail
            go_loopw [39] (fun vi wr => ∃ j : Nat, j ≤ t.length ∧ vi = .int .i64 j ∧ PairsOk t (fun a b => a = k ∧ b < j) ∧ ∃ m, wr = w.drewN m) (fun vi _ => t.length - (intOf vi).toNat)
            case atStart => exact ⟨0, Nat.zero_le _, rfl, fun a b h => by omega, _, rfl⟩
            case round =>
              obtain ⟨j, hj, rfl, hq, m3, rfl⟩ := hrel
              have Hq := Lib.hid hq
              clear hq
              by_cases hlt2 : j < t.length
              · obtain ⟨b2, o2, rfl, hel⟩ := elemAt hrd (k := j) (by rw [Hrk.out]; exact hlt2)
                obtain ⟨b3, o3, A3, c3, e3, hcell3, hrd3⟩ := rowAt hr hlt2
                obtain ⟨rfl, rfl⟩ : b = b3 ∧ o = o3 := by simpa using e3
                have hrj := (Hok.out j hlt2).1
                obtain ⟨b4, o4, rfl, hel4⟩ := elemAt hrd3 (k := k) (by rw [hrj]; exact hlt)
                rw [hrj] at hcell3
                have e1 : ga (gm t k) j = tc t k j := rfl
                have e2 : ga (gm t j) k = tc t j k := rfl
                rw [e1] at hel
                rw [e2] at hel4
                have Hno := Lib.hid (fun h : ¬ ((0 < tc t k j ↔ 0 < tc t j k) ∧ (k = j → tc t k j = 0)) => show false = validC t from (validC_no fun g => h ⟨g.sy k j hlt hlt2, fun e => by subst e; exact g.di k hlt⟩).symm)
                have Hyes := Lib.hid (fun h : (0 < tc t k j ↔ 0 < tc t j k) ∧ (k = j → tc t k j = 0) => show PairsOk t (fun a b => a = k ∧ b < j + 1) from fun a b hab => by
                  by_cases e : b = j
                  · obtain ⟨rfl, _⟩ := hab; subst e; exact h
                  · exact Hq.out a b ⟨hab.1, by omega⟩)
                clear Hq e1 e2 e3 hrj hrd3
                generalize tc t k j = x at *
                generalize tc t j k = y at *
                by_cases hx : 0 < x <;> by_cases hy : 0 < y
                · by_cases hkj : k = j
                  · have H := Lib.hid (Hno.out (fun h => by have := h.2 hkj; omega))
                    have hkj1 : (((k : Nat) : Int) == ((j : Nat) : Int)) = true := by rw [hkj]; simp
                    have hx0 : (x != 0) = true := by simp [bne]; omega
                    clear hkj Hno Hyes
                    go_wp2_with fail
                    go_ret
                    exact ⟨ret_bool H.out, below_drewN (Below.refl _ _) _⟩
                  · have H := Lib.hid (Hyes.out ⟨⟨fun _ => hy, fun _ => hx⟩, fun e => absurd e hkj⟩)
                    have hkj1 : (((k : Nat) : Int) == ((j : Nat) : Int)) = false := by simp; omega
                    clear hkj Hno Hyes
                    go_wp2_with fail
                    go_roundw
                    case rel => exact ⟨j + 1, by omega, by go_num, H.out, _, rfl⟩
                    case measure => simp [intOf]; omega
                · have H := Lib.hid (Hno.out (fun h => hy (h.1.mp hx)))
                  clear Hno Hyes
                  go_wp2_with fail
                  go_ret
                  exact ⟨ret_bool H.out, below_drewN (Below.refl _ _) _⟩
                · have H := Lib.hid (Hno.out (fun h => hx (h.1.mpr hy)))
                  clear Hno Hyes
                  go_wp2_with fail
                  go_ret
                  exact ⟨ret_bool H.out, below_drewN (Below.refl _ _) _⟩
                · by_cases hkj : k = j
                  · have hkj1 : (((k : Nat) : Int) == ((j : Nat) : Int)) = true := by rw [hkj]; simp
                    by_cases hx00 : x = 0
                    · have H := Lib.hid (Hyes.out ⟨⟨fun h => absurd h hx, fun h => absurd h hy⟩, fun _ => hx00⟩)
                      have hx0 : (x != 0) = false := by simp [bne, hx00]
                      clear hkj Hno Hyes hx00
                      go_wp2_with fail
                      go_roundw
                      case rel => exact ⟨j + 1, by omega, by go_num, H.out, _, rfl⟩
                      case measure => simp [intOf]; omega
                    · have H := Lib.hid (Hno.out (fun h => hx00 (h.2 hkj)))
                      have hx0 : (x != 0) = true := by simp [bne, hx00]
                      clear hkj Hno Hyes hx00
                      go_wp2_with fail
                      go_ret
                      exact ⟨ret_bool H.out, below_drewN (Below.refl _ _) _⟩
                  · have H := Lib.hid (Hyes.out ⟨⟨fun h => absurd h hx, fun h => absurd h hy⟩, fun e => absurd e hkj⟩)
                    have hkj1 : (((k : Nat) : Int) == ((j : Nat) : Int)) = false := by simp; omega
                    clear hkj Hno Hyes
                    go_wp2_with fail
                    go_roundw
                    case rel => exact ⟨j + 1, by omega, by go_num, H.out, _, rfl⟩
                    case measure => simp [intOf]; omega
              · obtain rfl : j = t.length := by omega
                have H := Lib.hid (show PairsOk t (fun a b => a < k + 1 ∧ b < t.length) from fun a b hab => by
                  by_cases e : a = k
                  · exact Hq.out a b ⟨e, hab.2⟩
                  · exact Hp.out a b ⟨by omega, hab.2⟩)
                clear Hq hlt2
                go_wp2_with fail
                go_roundw
                case rel => exact ⟨k + 1, by omega, by go_num, H.out, _, rfl⟩
                case measure => simp [intOf]; omega
          · obtain rfl : k = t.length := by omega
            have H := Lib.hid (show true = validC t from (dec_iff.mpr (goodC_of (by omega) (by omega) Hok.out hp)).symm)
            clear hp hlt
            go_wp2_with fail
            go_ret
            exact ⟨ret_bool H.out, below_drewN (Below.refl _ _) _⟩
end Go.Proofs.Ytcckipckgnkieaa
