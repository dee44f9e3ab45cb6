/-
  SplitGreens in plain Lean: shares, rests, and who gets one second more.
-/
import Derived.Test.YtknddadgmbkpnaaWorst
namespace Go.Proofs.Ytknddadgmbkpnaa
set_option linter.unusedVariables false

/-! ### shares and rests -/
def shq (F D : Int) (de : List Int) (i : Nat) : Int := F * ga de i / D
def shr (F D : Int) (de : List Int) (i : Nat) : Int := F * ga de i % D
def qsum (F D : Int) (de : List Int) : Nat → Int
  | 0 => 0
  | k + 1 => qsum F D de k + shq F D de k
def rsum (F D : Int) (de : List Int) : Nat → Int
  | 0 => 0
  | k + 1 => rsum F D de k + shr F D de k
theorem share_sum (F D : Int) (de : List Int) (k : Nat) (hk : k ≤ de.length) : D * qsum F D de k + rsum F D de k = F * sumL (de.take k) := by
  induction k with
  | zero => simp [qsum, rsum, sumL]
  | succ k ih =>
    have h1 := ih (by omega)
    have h2 : D * shq F D de k + shr F D de k = F * ga de k := Int.mul_ediv_add_emod _ _
    have h3 : sumL (de.take (k + 1)) = sumL (de.take k) + ga de k := by rw [sumL_take de k (by omega), ga_at (by omega)]
    rw [h3, Int.mul_add, qsum, rsum, Int.mul_add]
    omega
theorem shr_bd (F D : Int) (de : List Int) (i : Nat) (hD : 0 < D) : 0 ≤ shr F D de i ∧ shr F D de i < D := ⟨Int.emod_nonneg _ (by omega), Int.emod_lt_of_pos _ hD⟩
theorem shq_bd (F D : Int) (de : List Int) (i : Nat) (hD : 0 < D) (hF : 0 ≤ F) (hi : 0 ≤ ga de i) (hle : ga de i ≤ D) : 0 ≤ shq F D de i ∧ shq F D de i ≤ F := by
  have h0 : 0 ≤ F * ga de i := Int.mul_nonneg hF hi
  refine ⟨Int.ediv_nonneg h0 (by omega), ?_⟩
  have h1 : F * ga de i ≤ F * D := Int.mul_le_mul_of_nonneg_left hle hF
  have := Int.ediv_le_ediv hD h1
  rwa [Int.mul_ediv_cancel _ (by omega)] at this
theorem rsum_bd (F D : Int) (de : List Int) (hD : 0 < D) (k : Nat) : 0 ≤ rsum F D de k ∧ rsum F D de k ≤ k * (D - 1) := by
  induction k with
  | zero => simp [rsum]
  | succ k ih =>
    have h := shr_bd F D de k hD
    have e : ((k + 1 : Nat) : Int) * (D - 1) = k * (D - 1) + (D - 1) := by rw [Int.natCast_succ, Int.add_mul, Int.one_mul]
    rw [rsum, e]
    omega
/-- What is left for the largest rests: fewer seconds than stages. -/
theorem left_bd (F D : Int) (de : List Int) (hD : D = sumL de) (hD0 : 0 < D) (hn : 0 < de.length) : 0 ≤ F - qsum F D de de.length ∧ F - qsum F D de de.length < de.length := by
  have h1 := share_sum F D de de.length (Nat.le_refl _)
  rw [List.take_length, ← hD] at h1
  have h2 := rsum_bd F D de hD0 de.length
  have h3 : D * (F - qsum F D de de.length) = rsum F D de de.length := by
    rw [Int.mul_sub, Int.mul_comm D F]
    omega
  constructor
  · refine Int.not_lt.mp fun h => ?_
    have := Int.mul_neg_of_pos_of_neg hD0 h
    omega
  · refine Int.not_le.mp fun h => ?_
    have h4 : D * (de.length : Int) ≤ D * (F - qsum F D de de.length) := Int.mul_le_mul_of_nonneg_left h (by omega)
    have h5 : (de.length : Int) * (D - 1) = D * (de.length : Int) - de.length := by rw [Int.mul_sub, Int.mul_one, Int.mul_comm]
    omega

/-! ### the order of the rests -/
/-- i stands before j. -/
def bef (r : Nat → Int) (i j : Nat) : Prop := r j < r i ∨ (r j = r i ∧ i < j)
theorem bef_asymm {r : Nat → Int} {i j : Nat} (h1 : bef r i j) (h2 : bef r j i) : False := by
  simp only [bef] at h1 h2; omega
theorem bef_trans {r : Nat → Int} {i j k : Nat} (h1 : bef r i j) (h2 : bef r j k) : bef r i k := by
  simp only [bef] at *; omega
theorem bef_total {r : Nat → Int} {i j : Nat} (h : i ≠ j) : bef r i j ∨ bef r j i := by
  simp only [bef]; omega
/-- The stages in the order of their rests. -/
def Srt (r : Nat → Int) (n : Nat) (l : List Nat) : Prop := l.Perm (List.range n) ∧ l.Pairwise (bef r)
theorem sorted_unique {r : Nat → Int} : ∀ {l l' : List Nat}, l.Perm l' → l.Pairwise (bef r) → l'.Pairwise (bef r) → l = l'
  | [], l', hp, _, _ => hp.nil_eq
  | a :: l, [], hp, _, _ => by simp at hp
  | a :: l, b :: l', hp, h1, h2 => by
    have hab : a = b := by
      refine Classical.byContradiction fun hne => ?_
      have ha : a ∈ b :: l' := hp.subset (by simp)
      have hb : b ∈ a :: l := hp.symm.subset (by simp)
      have ha' : a ∈ l' := by simpa [hne] using ha
      have hb' : b ∈ l := (List.mem_cons.mp hb).resolve_left fun h => hne h.symm
      exact bef_asymm (List.rel_of_pairwise_cons h1 hb') (List.rel_of_pairwise_cons h2 ha')
    subst hab
    rw [sorted_unique ((List.perm_cons a).mp hp) h1.of_cons h2.of_cons]
theorem Srt.unique {r : Nat → Int} {n : Nat} {l l' : List Nat} (h : Srt r n l) (h' : Srt r n l') : l = l' := sorted_unique (h.1.trans h'.1.symm) h.2 h'.2
theorem Srt.length {r : Nat → Int} {n : Nat} {l : List Nat} (h : Srt r n l) : l.length = n := by rw [h.1.length_eq, List.length_range]
theorem Srt.mem {r : Nat → Int} {n : Nat} {l : List Nat} (h : Srt r n l) {i : Nat} : i ∈ l ↔ i < n := by rw [h.1.mem_iff, List.mem_range]
theorem Srt.nodup {r : Nat → Int} {n : Nat} {l : List Nat} (h : Srt r n l) : l.Nodup := h.1.nodup_iff.mpr List.nodup_range
/-- The stages in order, made. -/
def ins (r : Nat → Int) (x : Nat) : List Nat → List Nat
  | [] => [x]
  | y :: l => if r x < r y ∨ (r x = r y ∧ y < x) then y :: ins r x l else x :: y :: l
def srt (r : Nat → Int) : Nat → List Nat
  | 0 => []
  | n + 1 => ins r n (srt r n)
theorem ins_perm (r : Nat → Int) (x : Nat) : ∀ l, (ins r x l).Perm (x :: l)
  | [] => .refl _
  | y :: l => by
    rw [ins]
    split
    · exact ((ins_perm r x l).cons y).trans (.swap x y l)
    · exact .refl _
theorem ins_pairwise (r : Nat → Int) (x : Nat) : ∀ l, x ∉ l → l.Pairwise (bef r) → (ins r x l).Pairwise (bef r)
  | [], _, _ => by simp [ins]
  | y :: l, hx, h => by
    rw [ins]
    have hxy : x ≠ y := fun e => hx (by simp [e])
    split
    · rename_i hlt
      refine List.Pairwise.cons ?_ (ins_pairwise r x l (fun e => hx (by simp [e])) h.of_cons)
      intro z hz
      rcases List.mem_cons.mp ((ins_perm r x l).subset hz) with rfl | hz
      · simp only [bef]; omega
      · exact List.rel_of_pairwise_cons h hz
    · rename_i hlt
      have hb : bef r x y := (bef_total hxy).elim id fun h' => by simp only [bef] at h'; omega
      refine List.Pairwise.cons ?_ h
      intro z hz
      rcases List.mem_cons.mp hz with rfl | hz
      · exact hb
      · exact bef_trans hb (List.rel_of_pairwise_cons h hz)
theorem srt_srt (r : Nat → Int) (n : Nat) : Srt r n (srt r n) := by
  induction n with
  | zero => exact ⟨.refl _, .nil⟩
  | succ n ih =>
    refine ⟨?_, ins_pairwise r n _ (fun h => by have := ih.mem.mp h; omega) ih.2⟩
    rw [List.range_succ]
    exact (ins_perm r n _).trans ((ih.1.cons n).trans (by simpa using (List.perm_append_comm (l₁ := [n]) (l₂ := List.range n))))
/-- The one at place t stands before all that come behind it. -/
theorem Srt.first {r : Nat → Int} {n : Nat} {l : List Nat} (h : Srt r n l) {t : Nat} (ht : t < l.length) {i : Nat} (hi : i < n) (hnot : i ∉ l.take t) (hne : i ≠ l[t]) : bef r l[t] i := by
  have hm : i ∈ l := h.mem.mpr hi
  obtain ⟨k, hk, rfl⟩ := List.getElem_of_mem hm
  have hkt : ¬ k < t := fun hlt => hnot (by rw [List.mem_take_iff_getElem]; exact ⟨k, by omega, rfl⟩)
  have hkt2 : k ≠ t := fun e => by subst e; exact hne rfl
  exact List.pairwise_iff_getElem.mp h.2 t k ht hk (by omega)
theorem Srt.fresh {r : Nat → Int} {n : Nat} {l : List Nat} (h : Srt r n l) {t : Nat} (ht : t < l.length) : l[t] ∉ l.take t := by
  intro hm
  rw [List.mem_take_iff_getElem] at hm
  obtain ⟨k, hk, e⟩ := hm
  have hb := List.pairwise_iff_getElem.mp h.2 k t (by omega) ht (by omega)
  rw [e] at hb
  exact bef_asymm hb hb
end Go.Proofs.Ytknddadgmbkpnaa
