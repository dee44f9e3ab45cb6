/-
  A controller through many seconds, in plain Lean.
-/
import Derived.Test.YtkppjngpllmpfaaAcLaw
namespace Go.Proofs.Ytkppjngpllmpfaa
set_option linter.unusedVariables false

/-- The controller before second k. -/
def stA (a : Ctl) (cs : List (List Bool)) : Nat → Ctl
  | 0 => a
  | k + 1 => stepF (stA a cs k) (cs.getD k [])
/-- What a controller shows. -/
def outA (b : Ctl) : Int := if 0 < b.le then -1 else b.now
def runL (a : Ctl) (cs : List (List Bool)) (n : Nat) : List Int := mapN n fun k => outA (stA a cs (k + 1))
def fitR (a : Ctl) (cs : List (List Bool)) : Bool := cs.all fun c => decide ((c.length : Int) = a.st)
def validR (a : Ctl) (cs : List (List Bool)) : Bool := validA a && decide (cs.length ≤ 150) && fitR a cs
def runF (a : Ctl) (cs : List (List Bool)) : List Int := if validR a cs then runL a cs cs.length else []

theorem validR_parts {a : Ctl} {cs : List (List Bool)} (h : validR a cs = true) : Good a ∧ cs.length ≤ 150 ∧ ∀ k (hk : k < cs.length), cs[k].length = a.wa.length := by
  simp only [validR, Bool.and_eq_true, decide_eq_true_eq] at h
  obtain ⟨⟨h1, h2⟩, h3⟩ := h
  have hg := validA_iff.mp h1
  refine ⟨hg, h2, fun k hk => ?_⟩
  have h4 := List.all_eq_true.mp h3 _ (List.getElem_mem hk)
  have h5 := hg.wa
  simp only [decide_eq_true_eq] at h4
  omega
theorem stA_good {a : Ctl} {cs : List (List Bool)} (h : validR a cs = true) (k : Nat) (hk : k ≤ cs.length) : Good (stA a cs k) ∧ (stA a cs k).wa.length = a.wa.length ∧ (stA a cs k).st = a.st := by
  obtain ⟨hg, hl, hc⟩ := validR_parts h
  induction k with
  | zero => exact ⟨hg, rfl, rfl⟩
  | succ k ih =>
    obtain ⟨h1, h2, h3⟩ := ih (by omega)
    have h4 : (stA a cs k).wa.length = (cs.getD k []).length := by
      rw [List.getD_eq_getElem?_getD, List.getElem?_eq_getElem (by omega)]
      rw [h2]
      exact (hc k (by omega)).symm
    exact ⟨step_good h1 h4, (step_wa h1 h4).trans h2, step_st.trans h3⟩
theorem stA_step {a : Ctl} {cs : List (List Bool)} {k : Nat} (hk : k < cs.length) : stA a cs (k + 1) = stepF (stA a cs k) cs[k] := by
  rw [stA, List.getD_eq_getElem?_getD, List.getElem?_eq_getElem hk]; rfl
theorem stA_fit {a : Ctl} {cs : List (List Bool)} (h : validR a cs = true) {k : Nat} (hk : k < cs.length) : (stA a cs k).wa.length = cs[k].length := by
  rw [(stA_good h k (by omega)).2.1, (validR_parts h).2.2 k hk]
theorem runL_length (a : Ctl) (cs : List (List Bool)) (n : Nat) : (runL a cs n).length = n := mapN_length _ _
theorem runL_get (a : Ctl) (cs : List (List Bool)) (n k : Nat) (h : k < (runL a cs n).length) : (runL a cs n)[k] = outA (stA a cs (k + 1)) := mapN_get _ _ _ _
theorem runL_succ (a : Ctl) (cs : List (List Bool)) (n : Nat) : runL a cs (n + 1) = runL a cs n ++ [outA (stA a cs (n + 1))] := by
  simp [runL, mapN, List.range_succ]
theorem runF_length {a : Ctl} {cs : List (List Bool)} : (runF a cs).length ≤ 150 := by
  unfold runF
  split
  · rename_i h
    have := (validR_parts h).2.1
    rw [runL_length]; omega
  · simp
theorem out_bd {b : Ctl} (hg : Good b) : -1 ≤ outA b ∧ outA b ≤ 5 := by
  have h1 := hg.now
  have h2 := hg.st
  unfold outA
  split <;> omega

/-! ### the future does not matter -/
theorem stA_take (a : Ctl) (cs : List (List Bool)) (n k : Nat) (hk : k ≤ n) : stA a (cs.take n) k = stA a cs k := by
  induction k with
  | zero => rfl
  | succ k ih =>
    rw [stA, stA, ih (by omega)]
    congr 1
    rw [List.getD_eq_getElem?_getD, List.getD_eq_getElem?_getD, List.getElem?_take, if_pos (by omega)]
theorem prefix_law {a : Ctl} {cs : List (List Bool)} (h : validR a cs = true) {n : Nat} (hn : n ≤ cs.length) : runF a (cs.take n) = (runF a cs).take n := by
  have hl := (validR_parts h).2.1
  have h2 : validR a (cs.take n) = true := by
    simp only [validR, Bool.and_eq_true, decide_eq_true_eq] at h ⊢
    refine ⟨⟨h.1.1, by simp; omega⟩, ?_⟩
    have h3 := List.all_eq_true.mp h.2
    exact List.all_eq_true.mpr fun c hc => h3 c (List.mem_of_mem_take hc)
  rw [runF, if_pos h2, runF, if_pos h]
  refine List.ext_getElem (by rw [runL_length, List.length_take, List.length_take, runL_length]) fun k h3 h4 => ?_
  rw [runL_get, List.getElem_take, runL_get]
  rw [runL_length, List.length_take] at h3
  rw [stA_take _ _ _ _ (by omega)]

/-! ### greens are not cut short -/
/-- What holds of the run and the gap behind a second. -/
def Shown (b : Ctl) (run gap : Int) : Prop := (0 < b.le → 5 - b.le ≤ gap) ∧ (¬ 0 < b.le → min (b.pa + 1) 5 ≤ run)
theorem shown_start {b : Ctl} (hg : Good b) : Shown b 5 4 := ⟨fun h => by omega, fun _ => by omega⟩
theorem shown_step {b : Ctl} {c : List Bool} {run gap : Int} (hg : Good b) (hl : b.wa.length = c.length) (hs : Shown b run gap) :
    (outA (stepF b c) = outA b ∧ Shown (stepF b c) (run + 1) (gap + 1)) ∨
    (outA (stepF b c) ≠ outA b ∧ outA (stepF b c) = -1 ∧ 5 ≤ run ∧ Shown (stepF b c) run 1) ∨
    (outA (stepF b c) ≠ outA b ∧ outA (stepF b c) ≠ -1 ∧ outA b = -1 ∧ 4 ≤ gap ∧ Shown (stepF b c) 1 gap) := by
  have hn := hg.now
  have hp := hg.pa
  obtain ⟨s1, s2⟩ := hs
  by_cases hle : 0 < b.le
  · have e := stepF_left (cars := c) hle
    have hb : outA b = -1 := by simp [outA, hle]
    by_cases h1 : b.le = 1
    · right; right
      have ho : outA (stepF b c) = b.now := by rw [e]; simp [outA, h1]
      refine ⟨by rw [ho, hb]; omega, by rw [ho]; omega, hb, by have := s1 hle; omega, ?_⟩
      rw [e]
      exact ⟨fun h => by simp only at h; omega, fun _ => by simp only; omega⟩
    · left
      have ho : outA (stepF b c) = -1 := by rw [e]; simp only [outA]; rw [if_pos (by omega)]
      refine ⟨by rw [ho, hb], ?_⟩
      rw [e]
      exact ⟨fun h => by simp only at h ⊢; have := s1 hle; omega, fun h => by simp only at h; omega⟩
  · have hb : outA b = b.now := by simp [outA, hle]
    have hr := s2 hle
    cases hgo : goF b c with
    | true =>
      right; left
      have e := stepF_go hle hgo
      have hgi := goF_iff.mp hgo
      have ho : outA (stepF b c) = -1 := by rw [e]; simp [outA]
      refine ⟨by rw [ho, hb]; omega, ho, by omega, ?_⟩
      rw [e]
      exact ⟨fun _ => by simp, fun h => by simp at h⟩
    | false =>
      left
      have e := stepF_stay hle hgo
      have ho : outA (stepF b c) = b.now := by rw [e]; simp [outA]
      refine ⟨by rw [ho, hb], ?_⟩
      rw [e]
      exact ⟨fun h => by simp at h, fun _ => by simp only; omega⟩
end Go.Proofs.Ytkppjngpllmpfaa
