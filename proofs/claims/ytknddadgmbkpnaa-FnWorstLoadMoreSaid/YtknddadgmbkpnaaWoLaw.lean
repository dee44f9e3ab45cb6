/-
  Plain laws of WorstLoad.
-/
import Derived.Test.YtknddadgmbkpnaaWorst
namespace Go.Proofs.Ytknddadgmbkpnaa
set_option linter.unusedVariables false

theorem cross_trans {a b c x y z : Int} (hx : 0 < x) (hy : 0 < y) (hz : 0 < z) (h1 : a * y ≤ b * x) (h2 : b * z ≤ c * y) : a * z ≤ c * x := by
  have h3 : (a * y) * z ≤ (b * x) * z := Int.mul_le_mul_of_nonneg_right h1 (by omega)
  have h4 : (b * z) * x ≤ (c * y) * x := Int.mul_le_mul_of_nonneg_right h2 (by omega)
  have e1 : (a * y) * z = (a * z) * y := by rw [Int.mul_assoc, Int.mul_comm y z, ← Int.mul_assoc]
  have e2 : (b * x) * z = (b * z) * x := by rw [Int.mul_assoc, Int.mul_comm x z, ← Int.mul_assoc]
  have e3 : (c * y) * x = (c * x) * y := by rw [Int.mul_assoc, Int.mul_comm y x, ← Int.mul_assoc]
  exact Int.le_of_mul_le_mul_right (by omega : (a * z) * y ≤ (c * x) * y) hy
/-- No stage before k is loaded more than the worst of them. -/
theorem wl_worst {de gr : List Int} (hg : ∀ i, i < de.length → 0 < ga gr i) (k : Nat) (hk : k ≤ de.length) (h0 : 0 < de.length) : ∀ i, i < k → ga de i * ga gr (wl de gr k) ≤ ga de (wl de gr k) * ga gr i := by
  induction k with
  | zero => intro i hi; omega
  | succ k ih =>
    intro i hi
    have hw := wl_le de gr k de.length h0 (by omega)
    rw [wl_succ]
    split
    · rename_i hlt
      by_cases e : i = k
      · subst e; exact Int.le_refl _
      · exact cross_trans (hg i (by omega)) (hg _ hw) (hg k (by omega)) (ih (by omega) i (by omega)) (Int.le_of_lt hlt)
    · rename_i hlt
      by_cases e : i = k
      · subst e; omega
      · exact ih (by omega) i (by omega)
theorem validW_parts {de gr : List Int} (hv : validW de gr = true) : (1 ≤ de.length ∧ de.length ≤ 5) ∧ gr.length = de.length ∧ allB de 0 999 = true ∧ allB gr 1 180 = true := by
  simp only [validW, Bool.and_eq_true, decide_eq_true_eq] at hv
  obtain ⟨⟨⟨h1, h2⟩, h3⟩, h4⟩ := hv
  exact ⟨by simp [inB] at h1; omega, h2, h3, h4⟩
theorem wl_more {de gr : List Int} (hv : validW de gr = true) (j : Nat) (hj : j < de.length) : ga de j * ga gr (wl de gr de.length) ≤ ga de (wl de gr de.length) * (ga gr j + 1) := by
  obtain ⟨hn, hlg, hd, hg⟩ := validW_parts hv
  have hgp : ∀ i, i < de.length → 0 < ga gr i := fun i hi => by
    have := allB_at hg (k := i) (by omega)
    rw [ga_at (by omega)] at this
    omega
  have h1 := wl_worst hgp de.length (Nat.le_refl _) (by omega) j hj
  have hw := wl_le de gr de.length de.length (by omega) (Nat.le_refl _)
  have h2 := allB_at hd hw
  rw [ga_at hw] at h2
  rw [Int.mul_add, Int.mul_one]
  omega
theorem validW_up {de gr : List Int} (hv : validW de gr = true) (h : ∀ z ∈ gr, z ≠ 180) : validW de (gr.map (· + 1)) = true := by
  obtain ⟨hn, hlg, hd, hg⟩ := validW_parts hv
  have h1 : inB (de.length : Int) 1 5 = true := by simp [inB]; omega
  have h2 : allB (gr.map (· + 1)) 1 180 = true := by
    simp only [allB, List.all_eq_true, List.mem_map]
    rintro x ⟨z, hz, rfl⟩
    have h3 := List.all_eq_true.mp hg z hz
    have h4 := h z hz
    simp [inB] at h3 ⊢
    omega
  simp [validW, h1, h2, hd, hlg]
theorem ga_up {gr : List Int} {j : Nat} (hj : j < gr.length) : ga (gr.map (· + 1)) j = ga gr j + 1 := by simp [ga, hj]
end Go.Proofs.Ytknddadgmbkpnaa
