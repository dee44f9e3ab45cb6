/-
  The reference's SplitGreens: its tests, its choice of the largest rest.
-/
import Derived.Test.YtknddadgmbkpnaaSplMath
import Derived.Test.YtknddadgmbkpnaaDrList
namespace Go.Proofs.Ytknddadgmbkpnaa
open Go.RowKit
set_option linter.unusedVariables false

def validS (total : Int) (de le : List Int) : Bool := inB total 0 180 && inB (de.length : Int) 1 5 && decide (le.length = de.length) && allB de 0 999 && allB le 0 180 && decide (sumL le ≤ total)
theorem small_allB {zs : List Int} {lo hi : Int} (h : allB zs lo hi = true) (h1 : -1000 ≤ lo) (h2 : hi ≤ 1000) (hn : zs.length ≤ 1000000) : Small zs :=
  ⟨hn, fun z hz => by
    have := List.all_eq_true.mp h z hz
    simp [inB] at this
    omega⟩

theorem sValidS_any (total : Int) (de le : List Int) (A B : Option Addr) (c d : Nat) (w : World) (ha : RdL fI w A de) (hb : RdL fI w B le) (hn : de.length ≤ 2000000) (hm : le.length ≤ 2000000) :
    Calls Try.prog 29 #[.int .i64 total, .slice A de.length c, .slice B le.length d] w fun e w' => e = .returned (.bool (validS total de le)) ∧ w = w' := by
  go_enter Try.func29, Try.ntmps29
  go_wp2_with fail
  refine (inRange_any _ _ _ _).mono ?_
  cases h1 : inB total 0 180
  · rintro e w' ⟨rfl, rfl⟩
    go_wp2_with fail
    go_ret
    exact ⟨by simp [validS, h1], rfl⟩
  rintro e w' ⟨rfl, rfl⟩
  go_wp2_with fail
  refine (inRange_any _ _ _ _).mono ?_
  cases h2 : inB (de.length : Int) 1 5
  · rintro e w' ⟨rfl, rfl⟩
    go_wp2_with fail
    go_ret
    exact ⟨by simp [validS, h2], rfl⟩
  rintro e w' ⟨rfl, rfl⟩
  by_cases h3 : le.length = de.length
  case neg =>
    have hne : (((le.length : Nat) : Int) == ((de.length : Nat) : Int)) = false := by simp; omega
    go_wp2_with fail
    go_ret
    exact ⟨by simp [validS, h3], rfl⟩
  have H3 := Lib.hid h3
  have hne : (((le.length : Nat) : Int) == ((de.length : Nat) : Int)) = true := by simp [h3]
  clear h3
  go_wp2_with fail
  refine (allIn_any _ _ _ _ _ _ ha (by omega)).mono ?_
  cases h4 : allB de 0 999
  · rintro e w' ⟨rfl, rfl⟩
    go_wp2_with fail
    go_ret
    exact ⟨by simp [validS, h4], rfl⟩
  rintro e w' ⟨rfl, rfl⟩
  go_wp2_with fail
  refine (allIn_any _ _ _ _ _ _ hb (by omega)).mono ?_
  cases h5 : allB le 0 180
  · rintro e w' ⟨rfl, rfl⟩
    go_wp2_with fail
    go_ret
    exact ⟨by simp [validS, h5], rfl⟩
  rintro e w' ⟨rfl, rfl⟩
  go_wp2_with fail
  refine (sSum_any _ _ _ _ hb (small_allB h5 (by omega) (by omega) (by have h9 := h2; simp [inB] at h9; have := H3.out; omega))).mono ?_
  rintro e w' ⟨rfl, rfl⟩
  go_wp2_with fail
  go_ret
  exact ⟨by simp [validS, h1, h2, H3.out, h4, h5], rfl⟩

/-- The best of the unused before i. -/
def Best (r : Nat → Int) (U : List Nat) (i : Nat) (at_ : Int) : Prop :=
  (at_ = -1 ∧ ∀ j, j < i → j ∈ U) ∨ ∃ a : Nat, at_ = a ∧ a < i ∧ a ∉ U ∧ ∀ j, j < i → j ∉ U → j = a ∨ bef r a j
theorem Best.used {r : Nat → Int} {U : List Nat} {i : Nat} {a : Int} (h : Best r U i a) (hu : i ∈ U) : Best r U (i + 1) a := by
  rcases h with ⟨h1, h2⟩ | ⟨b, h1, h2, h3, h4⟩
  · refine .inl ⟨h1, fun j hj => ?_⟩
    by_cases e : j = i
    · rwa [e]
    · exact h2 j (by omega)
  · refine .inr ⟨b, h1, by omega, h3, fun j hj hn => ?_⟩
    by_cases e : j = i
    · subst e; exact absurd hu hn
    · exact h4 j (by omega) hn
theorem Best.new {r : Nat → Int} {U : List Nat} {i : Nat} (h : Best r U i (-1)) (hu : i ∉ U) : Best r U (i + 1) (i : Int) := by
  rcases h with ⟨h1, h2⟩ | ⟨b, h1, h2, h3, h4⟩
  · refine .inr ⟨i, rfl, by omega, hu, fun j hj hn => ?_⟩
    by_cases e : j = i
    · exact .inl e
    · exact absurd (h2 j (by omega)) hn
  · omega
theorem Best.more {r : Nat → Int} {U : List Nat} {i a : Nat} (h : Best r U i (a : Int)) (hu : i ∉ U) (hr : r a < r i) : Best r U (i + 1) (i : Int) := by
  rcases h with ⟨h1, h2⟩ | ⟨b, h1, h2, h3, h4⟩
  · omega
  · obtain rfl : a = b := by omega
    refine .inr ⟨i, rfl, by omega, hu, fun j hj hn => ?_⟩
    by_cases e : j = i
    · exact .inl e
    · right
      rcases h4 j (by omega) hn with rfl | h5
      · exact .inl hr
      · exact bef_trans (.inl hr) h5
theorem Best.less {r : Nat → Int} {U : List Nat} {i a : Nat} (h : Best r U i (a : Int)) (hr : ¬ r a < r i) : Best r U (i + 1) (a : Int) := by
  rcases h with ⟨h1, h2⟩ | ⟨b, h1, h2, h3, h4⟩
  · omega
  · obtain rfl : a = b := by omega
    refine .inr ⟨a, rfl, by omega, h3, fun j hj hn => ?_⟩
    by_cases e : j = i
    · subst e
      exact .inr (by simp only [bef]; omega)
    · exact h4 j (by omega) hn
theorem Best.done {r : Nat → Int} {n : Nat} {l : List Nat} {t : Nat} {a : Int} (h : Best r (l.take t) n a) (hs : Srt r n l) (ht : t < l.length) : a = (l[t] : Nat) := by
  have hf := hs.fresh ht
  have hm : l[t] < n := hs.mem.mp (List.getElem_mem ht)
  rcases h with ⟨h1, h2⟩ | ⟨b, h1, h2, h3, h4⟩
  · exact absurd (h2 _ hm) hf
  · rcases h4 _ hm hf with e | e
    · rw [e]; exact h1
    · by_cases hne : b = l[t]
      · rw [← hne]; exact h1
      · exact (bef_asymm e (hs.first ht h2 h3 hne)).elim

set_option maxHeartbeats 1600000 in
theorem largest_any (rs : List Int) (us : List Bool) (l : List Nat) (t : Nat) (A B : Option Addr) (c d : Nat) (w : World) (ha : RdL fI w A rs) (hb : RdL fB w B us) (hn : rs.length ≤ 1000) (hl : us.length = rs.length) (hs : Srt (ga rs) rs.length l) (ht : t < l.length) (hu : ∀ i (h : i < us.length), us[i] = decide (i ∈ l.take t)) :
    Calls Try.prog 40 #[.slice A rs.length c, .slice B us.length d] w fun e w' => e = .returned (.int .i64 (l[t] : Nat)) ∧ Below w.heap.size w w' := by
  have Hs := Lib.hid hs
  have Hu := Lib.hid hu
  have hl1 : rs.length ≤ us.length := by omega
  have hl2 : us.length ≤ 1000 := by omega
  clear hs hu hl
  go_enter Try.func40, Try.ntmps40
  go_wp2_with fail
  go_loopw [5, 6] (fun a i wr => ∃ k : Nat, k ≤ rs.length ∧ i = .int .i64 k ∧ (∃ at_, a = .int .i64 at_ ∧ Best (ga rs) (l.take t) k at_) ∧ ∃ m, wr = w.drewN m) (fun _ i _ => rs.length - (intOf i).toNat)
  case atStart => exact ⟨0, Nat.zero_le _, rfl, ⟨-1, rfl, .inl ⟨rfl, fun j hj => by omega⟩⟩, 0, rfl⟩
  case round =>
    obtain ⟨k, hk, rfl, ⟨at_, rfl, hbest⟩, m, rfl⟩ := hrel
    by_cases hlt : k < rs.length
    · have hlt2 : k < us.length := by omega
      obtain ⟨b1, o1, rfl, hc1⟩ := ha.at hlt
      obtain ⟨b2, o2, rfl, hc2⟩ := hb.at hlt2
      rw [ga_at hlt] at hc1
      rw [Hu.out k hlt2] at hc2
      simp only [fI, fB] at hc1 hc2
      have Hb := Lib.hid hb
      clear hb
      by_cases hm : k ∈ l.take t
      · rw [decide_eq_true hm] at hc2
        have hN := Lib.hid (hbest.used hm)
        clear hbest hm ha
        go_wp2_with fail
        go_quiet (fail)
        go_wp2_with fail
        go_roundw
        case rel => exact ⟨k + 1, by omega, by go_num, ⟨_, rfl, hN.out⟩, m + nq, rfl⟩
        case measure => simp [intOf]; omega
      · rw [decide_eq_false hm] at hc2
        rcases hbest with ⟨rfl, h2⟩ | ⟨a, rfl, hak, h3, h4⟩
        · have hN := Lib.hid (Best.new (r := ga rs) (.inl ⟨rfl, h2⟩) hm)
          clear h2 hm ha
          go_wp2_with fail
          go_quiet (fail)
          go_wp2_with fail
          go_roundw
          case rel => exact ⟨k + 1, by omega, by go_num, ⟨_, rfl, hN.out⟩, m + nq, rfl⟩
          case measure => simp [intOf]; omega
        · obtain ⟨b1', o1', e1, hc3⟩ := ha.at (k := a) (by omega)
          injection e1 with e1; injection e1 with e1 e2; subst e1 e2
          rw [ga_at (by omega)] at hc3
          simp only [fI] at hc3
          have hneg : decide ((a : Int) < 0) = false := by simp
          have har : a < rs.length := by omega
          by_cases hr : ga rs a < ga rs k
          · have hN := Lib.hid (Best.more (r := ga rs) (.inr ⟨a, rfl, hak, h3, h4⟩) hm hr)
            have hr2 : decide (ga rs a < ga rs k) = true := decide_eq_true hr
            clear h3 h4 hm ha hr
            generalize ga rs a = x at *
            generalize ga rs k = y at *
            go_wp2_with fail
            go_quiet (fail)
            go_wp2_with fail
            go_roundw
            case rel => exact ⟨k + 1, by omega, by go_num, ⟨_, rfl, hN.out⟩, m + nq, rfl⟩
            case measure => simp [intOf]; omega
          · have hN := Lib.hid (Best.less (r := ga rs) (.inr ⟨a, rfl, hak, h3, h4⟩) hr)
            have hr2 : decide (ga rs a < ga rs k) = false := decide_eq_false hr
            clear h3 h4 hm ha hr
            generalize ga rs a = x at *
            generalize ga rs k = y at *
            go_wp2_with fail
            go_quiet (fail)
            go_wp2_with fail
            go_roundw
            case rel => exact ⟨k + 1, by omega, by go_num, ⟨_, rfl, hN.out⟩, m + nq, rfl⟩
            case measure => simp [intOf]; omega
    · obtain rfl : k = rs.length := by omega
      have hD := Lib.hid (hbest.done Hs.out ht)
      clear hbest
      go_wp2_with fail
      go_ret
      exact ⟨by rw [← hD.out]; rfl, below_drewN (Below.refl _ _) _⟩
end Go.Proofs.Ytknddadgmbkpnaa
