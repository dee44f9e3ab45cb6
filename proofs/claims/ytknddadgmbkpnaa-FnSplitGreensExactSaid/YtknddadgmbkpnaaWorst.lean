/-
  WorstLoad: the program's and the reference's.
-/
import Derived.Test.YtknddadgmbkpnaaLs
import Derived.Test.YtknddadgmbkpnaaReg
namespace Go.Proofs.Ytknddadgmbkpnaa
open Go.RowKit
set_option linter.unusedVariables false

def ga (ar : List Int) (k : Nat) : Int := ar.getD k 0
theorem ga_at {ar : List Int} {k : Nat} (h : k < ar.length) : ar[k] = ga ar k := by simp [ga, h]
/-- The stage with the greatest quotient of those before k. -/
def wl (de gr : List Int) : Nat → Nat
  | 0 => 0
  | k + 1 => if ga de (wl de gr k) * ga gr k < ga de k * ga gr (wl de gr k) then k else wl de gr k
theorem wl_succ (de gr : List Int) (k : Nat) : wl de gr (k + 1) = if ga de (wl de gr k) * ga gr k < ga de k * ga gr (wl de gr k) then k else wl de gr k := rfl
theorem wl_one (de gr : List Int) : wl de gr 1 = 0 := by
  rw [wl_succ]
  split <;> rfl
theorem wl_le (de gr : List Int) (k n : Nat) (hn : 0 < n) (hk : k ≤ n) : wl de gr k < n := by
  induction k with
  | zero => exact hn
  | succ k ih =>
    rw [wl_succ]
    split
    · omega
    · exact ih (by omega)
def validW (de gr : List Int) : Bool := inB (de.length : Int) 1 5 && decide (gr.length = de.length) && allB de 0 999 && allB gr 1 180
def worstF (de gr : List Int) : Int × Int := if validW de gr then (ga de (wl de gr de.length), ga gr (wl de gr de.length)) else (-1, -1)
theorem allB_at {zs : List Int} {lo hi : Int} (h : allB zs lo hi = true) {k : Nat} (hk : k < zs.length) : lo ≤ zs[k] ∧ zs[k] ≤ hi := by
  have := List.all_eq_true.mp h _ (List.getElem_mem hk)
  simpa [inB] using this
theorem mul_bd {x y : Int} (hx : 0 ≤ x ∧ x ≤ 999) (hy : 1 ≤ y ∧ y ≤ 180) : 0 ≤ x * y ∧ x * y ≤ 179820 := by
  constructor
  · exact Int.mul_nonneg hx.1 (by omega)
  · calc x * y ≤ 999 * y := Int.mul_le_mul_of_nonneg_right hx.2 (by omega)
      _ ≤ 179820 := by omega

/-- The facts of one round. -/
theorem round_facts {de gr : List Int} (hd : allB de 0 999 = true) (hg : allB gr 1 180 = true) {i j : Nat} (hi : i < de.length) (hj : j < gr.length) : 0 ≤ ga de i * ga gr j ∧ ga de i * ga gr j ≤ 179820 := by
  have h1 := allB_at hd hi
  have h2 := allB_at hg hj
  rw [ga_at hi] at h1
  rw [ga_at hj] at h2
  exact mul_bd h1 h2

set_option maxHeartbeats 800000 in
theorem sWorst_yes (de gr : List Int) (A B : Option Addr) (c d : Nat) (w : World) (ha : RdL fI w A de) (hb : RdL fI w B gr) (hv : validW de gr = true) :
    Calls Try.prog 11 #[.slice A de.length c, .slice B gr.length d] w fun e w' => e = .returned (.tuple #[.int .i64 (ga de (wl de gr de.length)), .int .i64 (ga gr (wl de gr de.length))]) ∧ Below w.heap.size w w' := by
  simp only [validW, Bool.and_eq_true, decide_eq_true_eq] at hv
  obtain ⟨⟨⟨h1, h2⟩, h3⟩, h4⟩ := hv
  have h1' : 1 ≤ de.length ∧ de.length ≤ 5 := by simp [inB] at h1; omega
  have H2 := Lib.hid h2
  have hl1 : de.length ≤ gr.length := by omega
  have hl2 : gr.length ≤ 5 := by omega
  have hne : (((gr.length : Nat) : Int) == ((de.length : Nat) : Int)) = true := by simp [h2]
  have hne2 : (((gr.length : Nat) : Int) != ((de.length : Nat) : Int)) = false := by simp [h2]
  have hrf := Lib.hid (fun i j hi hj => round_facts h3 h4 (i := i) (j := j) hi hj)
  clear h2
  go_enter Try.func11, Try.ntmps11
  go_wp2_with fail
  refine (inRange_any _ _ _ _).mono ?_; rw [h1]; rintro e w' ⟨rfl, rfl⟩
  go_wp2_with fail
  refine (allIn_any _ _ _ _ _ _ ha (by omega)).mono ?_; rw [h3]; rintro e w' ⟨rfl, rfl⟩
  go_wp2_with fail
  refine (allIn_any _ _ _ _ _ _ hb (by omega)).mono ?_; rw [h4]; rintro e w' ⟨rfl, rfl⟩
  go_wp2_with fail
  clear hne hne2 h1
  go_loopw [6, 7] (fun b i wr => ∃ k : Nat, 1 ≤ k ∧ k ≤ de.length ∧ i = .int .i64 k ∧ b = .int .i64 (wl de gr k : Int) ∧ ∃ m, wr = w.drewN m) (fun _ i _ => de.length - (intOf i).toNat)
  case atStart => exact ⟨1, by omega, by omega, rfl, by rw [wl_one]; rfl, 0, rfl⟩
  case round =>
    obtain ⟨k, hk0, hk, rfl, rfl, m, rfl⟩ := hrel
    have hw := wl_le de gr k de.length (by omega) hk
    have hsucc := wl_succ de gr k
    by_cases hlt : k < de.length
    · have p1 := hrf.out k (wl de gr k) hlt (by omega)
      have p2 := hrf.out (wl de gr k) k hw (by omega)
      obtain ⟨b1, o1, rfl, hc1⟩ := ha.at hlt
      obtain ⟨b1', o1', e1, hc2⟩ := ha.at hw
      injection e1 with e1; injection e1 with e1 e2; subst e1 e2
      obtain ⟨b2, o2, rfl, hc3⟩ := hb.at (k := k) (by omega)
      obtain ⟨b2', o2', e1, hc4⟩ := hb.at (k := wl de gr k) (by omega)
      injection e1 with e1; injection e1 with e1 e2; subst e1 e2
      rw [ga_at hlt] at hc1
      rw [ga_at hw] at hc2
      rw [ga_at (by omega)] at hc3 hc4
      simp only [fI] at hc1 hc2 hc3 hc4
      by_cases hp : ga de (wl de gr k) * ga gr k < ga de k * ga gr (wl de gr k)
      · rw [if_pos hp] at hsucc
        have Hs := Lib.hid hsucc
        have hp2 : decide (ga de (wl de gr k) * ga gr k < ga de k * ga gr (wl de gr k)) = true := by simpa using hp
        have Ha := Lib.hid ha
        have Hb := Lib.hid hb
        clear hsucc ha hb h3 h4
        generalize ga de (wl de gr k) = x1 at *
        generalize ga de k = x2 at *
        generalize ga gr (wl de gr k) = y1 at *
        generalize ga gr k = y2 at *
        generalize wl de gr k = q at *
        go_wp2_with fail
        go_quiet (fail)
        go_wp2_with fail
        go_roundw
        case rel => exact ⟨k + 1, by omega, by omega, by go_num, by rw [Hs.out], m + nq, rfl⟩
        case measure => simp [intOf]; omega
      · rw [if_neg hp] at hsucc
        have Hs := Lib.hid hsucc
        have hp2 : decide (ga de (wl de gr k) * ga gr k < ga de k * ga gr (wl de gr k)) = false := by simpa using hp
        have Ha := Lib.hid ha
        have Hb := Lib.hid hb
        clear hsucc ha hb h3 h4
        generalize ga de (wl de gr k) = x1 at *
        generalize ga de k = x2 at *
        generalize ga gr (wl de gr k) = y1 at *
        generalize ga gr k = y2 at *
        generalize wl de gr k = q at *
        go_wp2_with fail
        go_quiet (fail)
        go_wp2_with fail
        go_roundw
        case rel => exact ⟨k + 1, by omega, by omega, by go_num, by rw [Hs.out], m + nq, rfl⟩
        case measure => simp [intOf]; omega
    · obtain rfl : k = de.length := by omega
      obtain ⟨b1, o1, rfl, hc1⟩ := ha.at hw
      obtain ⟨b2, o2, rfl, hc2⟩ := hb.at (k := wl de gr de.length) (by omega)
      rw [ga_at hw] at hc1
      rw [ga_at (by omega)] at hc2
      simp only [fI] at hc1 hc2
      have hwg : wl de gr de.length < gr.length := by omega
      have Ha := Lib.hid ha
      have Hb := Lib.hid hb
      clear hsucc ha hb h3 h4
      generalize hx1 : ga de (wl de gr de.length) = x1 at hc1
      generalize hy1 : ga gr (wl de gr de.length) = y1 at hc2
      have Hx1 := Lib.hid hx1
      have Hy1 := Lib.hid hy1
      clear hx1 hy1 hrf
      generalize wl de gr de.length = q at hw hwg hc1 hc2
      go_wp2_with fail
      go_quiet (fail)
      go_wp2_with fail
      go_ret2
      exact ⟨by rw [Hx1.out, Hy1.out]; rfl, below_drewN (below_drewN (Below.refl _ _) _) _⟩
set_option maxHeartbeats 800000 in
theorem iWorst_yes (de gr : List Int) (A B : Option Addr) (c d : Nat) (w : World) (ha : RdL fI w A de) (hb : RdL fI w B gr) (hv : validW de gr = true) :
    Calls Try.prog 13 #[.slice A de.length c, .slice B gr.length d] w fun e w' => e = .returned (.tuple #[.int .i64 (ga de (wl de gr de.length)), .int .i64 (ga gr (wl de gr de.length))]) ∧ Below w.heap.size w w' := by
  simp only [validW, Bool.and_eq_true, decide_eq_true_eq] at hv
  obtain ⟨⟨⟨h1, h2⟩, h3⟩, h4⟩ := hv
  have h1' : 1 ≤ de.length ∧ de.length ≤ 5 := by simp [inB] at h1; omega
  have H2 := Lib.hid h2
  have hl1 : de.length ≤ gr.length := by omega
  have hl2 : gr.length ≤ 5 := by omega
  have hne : (((gr.length : Nat) : Int) == ((de.length : Nat) : Int)) = true := by simp [h2]
  have hne2 : (((gr.length : Nat) : Int) != ((de.length : Nat) : Int)) = false := by simp [h2]
  have hrf := Lib.hid (fun i j hi hj => round_facts h3 h4 (i := i) (j := j) hi hj)
  clear h2
  go_enter Try.func13, Try.ntmps13
  go_wp2_with fail
  refine (within_any _ _ _ _).mono ?_; rw [h1]; rintro e w' ⟨rfl, rfl⟩
  go_wp2_with fail
  refine (allWithin_any _ _ _ _ _ _ ha (by omega)).mono ?_; rw [h3]; rintro e w' ⟨rfl, rfl⟩
  go_wp2_with fail
  refine (allWithin_any _ _ _ _ _ _ hb (by omega)).mono ?_; rw [h4]; rintro e w' ⟨rfl, rfl⟩
  go_wp2_with fail
  clear hne hne2 h1
  go_loopw [6, 29] (fun b i wr => ∃ k : Nat, k ≤ de.length ∧ i = .int .i64 k ∧ b = .int .i64 (wl de gr k : Int) ∧ ∃ m, wr = w.drewN m) (fun _ i _ => de.length - (intOf i).toNat)
  case atStart => exact ⟨0, by omega, rfl, rfl, 0, rfl⟩
  case round =>
    obtain ⟨k, hk, rfl, rfl, m, rfl⟩ := hrel
    have hw := wl_le de gr k de.length (by omega) hk
    have hsucc := wl_succ de gr k
    by_cases hlt : k < de.length
    · have p1 := hrf.out k (wl de gr k) hlt (by omega)
      have p2 := hrf.out (wl de gr k) k hw (by omega)
      obtain ⟨b1, o1, rfl, hc1⟩ := ha.at hlt
      obtain ⟨b1', o1', e1, hc2⟩ := ha.at hw
      injection e1 with e1; injection e1 with e1 e2; subst e1 e2
      obtain ⟨b2, o2, rfl, hc3⟩ := hb.at (k := k) (by omega)
      obtain ⟨b2', o2', e1, hc4⟩ := hb.at (k := wl de gr k) (by omega)
      injection e1 with e1; injection e1 with e1 e2; subst e1 e2
      rw [ga_at hlt] at hc1
      rw [ga_at hw] at hc2
      rw [ga_at (by omega)] at hc3 hc4
      simp only [fI] at hc1 hc2 hc3 hc4
      by_cases hp : ga de (wl de gr k) * ga gr k < ga de k * ga gr (wl de gr k)
      · rw [if_pos hp] at hsucc
        have Hs := Lib.hid hsucc
        have hp2 : decide (ga de (wl de gr k) * ga gr k < ga de k * ga gr (wl de gr k)) = true := by simpa using hp
        have Ha := Lib.hid ha
        have Hb := Lib.hid hb
        clear hsucc ha hb h3 h4
        generalize ga de (wl de gr k) = x1 at *
        generalize ga de k = x2 at *
        generalize ga gr (wl de gr k) = y1 at *
        generalize ga gr k = y2 at *
        generalize wl de gr k = q at *
        go_wp2_with fail
        go_quiet (fail)
        go_wp2_with fail
        go_roundw
        case rel => exact ⟨k + 1, by omega, by go_num, by rw [Hs.out], m + nq, rfl⟩
        case measure => simp [intOf]; omega
      · rw [if_neg hp] at hsucc
        have Hs := Lib.hid hsucc
        have hp2 : decide (ga de (wl de gr k) * ga gr k < ga de k * ga gr (wl de gr k)) = false := by simpa using hp
        have Ha := Lib.hid ha
        have Hb := Lib.hid hb
        clear hsucc ha hb h3 h4
        generalize ga de (wl de gr k) = x1 at *
        generalize ga de k = x2 at *
        generalize ga gr (wl de gr k) = y1 at *
        generalize ga gr k = y2 at *
        generalize wl de gr k = q at *
        go_wp2_with fail
        go_quiet (fail)
        go_wp2_with fail
        go_roundw
        case rel => exact ⟨k + 1, by omega, by go_num, by rw [Hs.out], m + nq, rfl⟩
        case measure => simp [intOf]; omega
    · obtain rfl : k = de.length := by omega
      obtain ⟨b1, o1, rfl, hc1⟩ := ha.at hw
      obtain ⟨b2, o2, rfl, hc2⟩ := hb.at (k := wl de gr de.length) (by omega)
      rw [ga_at hw] at hc1
      rw [ga_at (by omega)] at hc2
      simp only [fI] at hc1 hc2
      have hwg : wl de gr de.length < gr.length := by omega
      have Ha := Lib.hid ha
      have Hb := Lib.hid hb
      clear hsucc ha hb h3 h4
      generalize hx1 : ga de (wl de gr de.length) = x1 at hc1
      generalize hy1 : ga gr (wl de gr de.length) = y1 at hc2
      have Hx1 := Lib.hid hx1
      have Hy1 := Lib.hid hy1
      clear hx1 hy1 hrf
      generalize wl de gr de.length = q at hw hwg hc1 hc2
      go_wp2_with fail
      go_quiet (fail)
      go_wp2_with fail
      go_ret2
      exact ⟨by rw [Hx1.out, Hy1.out]; rfl, below_drewN (below_drewN (Below.refl _ _) _) _⟩

theorem validW_no {de gr : List Int} (h : validW de gr = false) : inB (de.length : Int) 1 5 = false ∨ (inB (de.length : Int) 1 5 = true ∧ gr.length ≠ de.length) ∨ (inB (de.length : Int) 1 5 = true ∧ gr.length = de.length ∧ allB de 0 999 = false) ∨ (inB (de.length : Int) 1 5 = true ∧ gr.length = de.length ∧ allB de 0 999 = true ∧ allB gr 1 180 = false) := by
  simp only [validW] at h
  by_cases h2 : gr.length = de.length <;> cases h1 : inB (de.length : Int) 1 5 <;> cases h3 : allB de 0 999 <;> cases h4 : allB gr 1 180 <;> simp_all
theorem sWorst_no (de gr : List Int) (A B : Option Addr) (c d : Nat) (w : World) (ha : RdL fI w A de) (hb : RdL fI w B gr) (hn : de.length ≤ 2000000) (hm : gr.length ≤ 2000000) (hv : validW de gr = false) :
    Calls Try.prog 11 #[.slice A de.length c, .slice B gr.length d] w fun e w' => e = .returned (.tuple #[.int .i64 (-1), .int .i64 (-1)]) ∧ Below w.heap.size w w' := by
  go_enter Try.func11, Try.ntmps11
  go_wp2_with fail
  refine (inRange_any _ _ _ _).mono ?_
  rcases validW_no hv with h1 | ⟨h1, h2⟩ | ⟨h1, h2, h3⟩ | ⟨h1, h2, h3, h4⟩
  · rw [h1]; rintro e w' ⟨rfl, rfl⟩
    go_wp2_with fail
    go_ret2
    exact ⟨rfl, Below.refl _ _⟩
  · have hne : (((gr.length : Nat) : Int) == ((de.length : Nat) : Int)) = false := by simp; omega
    have hne2 : (((gr.length : Nat) : Int) != ((de.length : Nat) : Int)) = true := by simp; omega
    rw [h1]; rintro e w' ⟨rfl, rfl⟩
    go_wp2_with fail
    go_ret2
    exact ⟨rfl, Below.refl _ _⟩
  · have hne : (((gr.length : Nat) : Int) == ((de.length : Nat) : Int)) = true := by simp [h2]
    have hne2 : (((gr.length : Nat) : Int) != ((de.length : Nat) : Int)) = false := by simp [h2]
    clear h2
    rw [h1]; rintro e w' ⟨rfl, rfl⟩
    go_wp2_with fail
    refine (allIn_any _ _ _ _ _ _ ha (by omega)).mono ?_; rw [h3]; rintro e w' ⟨rfl, rfl⟩
    go_wp2_with fail
    go_ret2
    exact ⟨rfl, Below.refl _ _⟩
  · have hne : (((gr.length : Nat) : Int) == ((de.length : Nat) : Int)) = true := by simp [h2]
    have hne2 : (((gr.length : Nat) : Int) != ((de.length : Nat) : Int)) = false := by simp [h2]
    clear h2
    rw [h1]; rintro e w' ⟨rfl, rfl⟩
    go_wp2_with fail
    refine (allIn_any _ _ _ _ _ _ ha (by omega)).mono ?_; rw [h3]; rintro e w' ⟨rfl, rfl⟩
    go_wp2_with fail
    refine (allIn_any _ _ _ _ _ _ hb (by omega)).mono ?_; rw [h4]; rintro e w' ⟨rfl, rfl⟩
    go_wp2_with fail
    go_ret2
    exact ⟨rfl, Below.refl _ _⟩
theorem iWorst_no (de gr : List Int) (A B : Option Addr) (c d : Nat) (w : World) (ha : RdL fI w A de) (hb : RdL fI w B gr) (hn : de.length ≤ 2000000) (hm : gr.length ≤ 2000000) (hv : validW de gr = false) :
    Calls Try.prog 13 #[.slice A de.length c, .slice B gr.length d] w fun e w' => e = .returned (.tuple #[.int .i64 (-1), .int .i64 (-1)]) ∧ Below w.heap.size w w' := by
  go_enter Try.func13, Try.ntmps13
  go_wp2_with fail
  refine (within_any _ _ _ _).mono ?_
  rcases validW_no hv with h1 | ⟨h1, h2⟩ | ⟨h1, h2, h3⟩ | ⟨h1, h2, h3, h4⟩
  · rw [h1]; rintro e w' ⟨rfl, rfl⟩
    go_wp2_with fail
    go_ret2
    exact ⟨rfl, Below.refl _ _⟩
  · have hne : (((gr.length : Nat) : Int) == ((de.length : Nat) : Int)) = false := by simp; omega
    have hne2 : (((gr.length : Nat) : Int) != ((de.length : Nat) : Int)) = true := by simp; omega
    rw [h1]; rintro e w' ⟨rfl, rfl⟩
    go_wp2_with fail
    go_ret2
    exact ⟨rfl, Below.refl _ _⟩
  · have hne : (((gr.length : Nat) : Int) == ((de.length : Nat) : Int)) = true := by simp [h2]
    have hne2 : (((gr.length : Nat) : Int) != ((de.length : Nat) : Int)) = false := by simp [h2]
    clear h2
    rw [h1]; rintro e w' ⟨rfl, rfl⟩
    go_wp2_with fail
    refine (allWithin_any _ _ _ _ _ _ ha (by omega)).mono ?_; rw [h3]; rintro e w' ⟨rfl, rfl⟩
    go_wp2_with fail
    go_ret2
    exact ⟨rfl, Below.refl _ _⟩
  · have hne : (((gr.length : Nat) : Int) == ((de.length : Nat) : Int)) = true := by simp [h2]
    have hne2 : (((gr.length : Nat) : Int) != ((de.length : Nat) : Int)) = false := by simp [h2]
    clear h2
    rw [h1]; rintro e w' ⟨rfl, rfl⟩
    go_wp2_with fail
    refine (allWithin_any _ _ _ _ _ _ ha (by omega)).mono ?_; rw [h3]; rintro e w' ⟨rfl, rfl⟩
    go_wp2_with fail
    refine (allWithin_any _ _ _ _ _ _ hb (by omega)).mono ?_; rw [h4]; rintro e w' ⟨rfl, rfl⟩
    go_wp2_with fail
    go_ret2
    exact ⟨rfl, Below.refl _ _⟩

theorem worst_pair (de gr : List Int) (e : Ending) (w w' : World) (a b : Int) (hab : worstF de gr = (a, b)) (h : e = .returned (.tuple #[.int .i64 a, .int .i64 b]) ∧ Below w.heap.size w w') : e = .returned (.tuple #[.int .i64 (worstF de gr).1, .int .i64 (worstF de gr).2]) ∧ Below w.heap.size w w' := by
  rw [hab]; exact h
theorem sWorst_any (de gr : List Int) (A B : Option Addr) (c d : Nat) (w : World) (ha : RdL fI w A de) (hb : RdL fI w B gr) (hn : de.length ≤ 2000000) (hm : gr.length ≤ 2000000) :
    Calls Try.prog 11 #[.slice A de.length c, .slice B gr.length d] w fun e w' => e = .returned (.tuple #[.int .i64 (worstF de gr).1, .int .i64 (worstF de gr).2]) ∧ Below w.heap.size w w' := by
  by_cases hv : validW de gr = true
  · exact (sWorst_yes de gr A B c d w ha hb hv).mono fun e w' h => worst_pair de gr e w w' _ _ (by simp only [worstF, hv, if_true]) h
  · have hv : validW de gr = false := by simpa using hv
    exact (sWorst_no de gr A B c d w ha hb hn hm hv).mono fun e w' h => worst_pair de gr e w w' _ _ (by simp [worstF, hv]) h
theorem iWorst_any (de gr : List Int) (A B : Option Addr) (c d : Nat) (w : World) (ha : RdL fI w A de) (hb : RdL fI w B gr) (hn : de.length ≤ 2000000) (hm : gr.length ≤ 2000000) :
    Calls Try.prog 13 #[.slice A de.length c, .slice B gr.length d] w fun e w' => e = .returned (.tuple #[.int .i64 (worstF de gr).1, .int .i64 (worstF de gr).2]) ∧ Below w.heap.size w w' := by
  by_cases hv : validW de gr = true
  · exact (iWorst_yes de gr A B c d w ha hb hv).mono fun e w' h => worst_pair de gr e w w' _ _ (by simp only [worstF, hv, if_true]) h
  · have hv : validW de gr = false := by simpa using hv
    exact (iWorst_no de gr A B c d w ha hb hn hm hv).mono fun e w' h => worst_pair de gr e w w' _ _ (by simp [worstF, hv]) h
end Go.Proofs.Ytknddadgmbkpnaa
