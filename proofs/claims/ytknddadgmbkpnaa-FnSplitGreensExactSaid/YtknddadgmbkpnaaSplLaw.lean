/-
  Plain laws of SplitGreens.
-/
import Derived.Test.YtknddadgmbkpnaaSplSplit
namespace Go.Proofs.Ytknddadgmbkpnaa
set_option linter.unusedVariables false

/-- How many of the first k stages lie in a list. -/
def cnt (l : List Nat) : Nat → Int
  | 0 => 0
  | k + 1 => cnt l k + if k ∈ l then 1 else 0
theorem cnt_nil (k : Nat) : cnt [] k = 0 := by
  induction k with
  | zero => rfl
  | succ k ih => rw [cnt, ih]; simp
theorem cnt_cons {a : Nat} {l : List Nat} (ha : a ∉ l) (k : Nat) : cnt (a :: l) k = cnt l k + if a < k then 1 else 0 := by
  induction k with
  | zero => simp [cnt]
  | succ k ih =>
    rw [cnt, cnt, ih]
    by_cases e : k = a
    · subst e
      simp [ha]
    · have : (if k ∈ a :: l then (1 : Int) else 0) = if k ∈ l then 1 else 0 := by
        by_cases hm : k ∈ l <;> simp [e, hm]
      rw [this]
      by_cases h : a < k
      · rw [if_pos h, if_pos (show a < k + 1 by omega)]; omega
      · rw [if_neg h, if_neg (show ¬ a < k + 1 by omega)]; omega
theorem cnt_all {l : List Nat} {n : Nat} (hn : l.Nodup) (hl : ∀ i ∈ l, i < n) : cnt l n = l.length := by
  induction l with
  | nil => rw [cnt_nil]; rfl
  | cons a l ih =>
    rw [List.nodup_cons] at hn
    rw [cnt_cons hn.1, ih hn.2 fun i hi => hl i (by simp [hi]), if_pos (hl a (by simp))]
    simp
theorem sumL_mapN (n : Nat) (f : Nat → Int) : sumL (mapN (n + 1) f) = sumL (mapN n f) + f n := by rw [mapN_succ, sumL_snoc]
theorem sumL_split (n : Nat) (F D : Int) (de le : List Int) (l : List Nat) (hn : n ≤ le.length) : sumL (mapN n fun i => ga le i + shq F D de i + if i ∈ l then 1 else 0) = sumL (le.take n) + qsum F D de n + cnt l n := by
  induction n with
  | zero => simp [mapN, sumL, qsum, cnt]
  | succ n ih =>
    rw [sumL_mapN, ih (by omega), sumL_take le n (by omega), ga_at (by omega), qsum, cnt]
    omega

theorem validS_parts {total : Int} {de le : List Int} (h : validS total de le = true) : (0 ≤ total ∧ total ≤ 180) ∧ (1 ≤ de.length ∧ de.length ≤ 5) ∧ le.length = de.length ∧ allB de 0 999 = true ∧ allB le 0 180 = true ∧ sumL le ≤ total := by
  simp only [validS, Bool.and_eq_true, decide_eq_true_eq] at h
  obtain ⟨⟨⟨⟨⟨h1, h2⟩, h3⟩, h4⟩, h5⟩, h6⟩ := h
  exact ⟨by simpa [inB] using h1, by simp [inB] at h2; omega, h3, h4, h5, h6⟩
theorem luck_facts {total : Int} {de le : List Int} (h : validS total de le = true) (h0 : sumL de ≠ 0) :
    0 < sumL de ∧ 0 ≤ freeS total le ∧ 0 ≤ leftS total de le ∧ leftS total de le < de.length ∧ (luckS total de le).Nodup ∧ (∀ i ∈ luckS total de le, i < de.length) ∧ ((luckS total de le).length : Int) = leftS total de le := by
  obtain ⟨h1, h2, h3, h4, h5, h6⟩ := validS_parts h
  have hD := (sum_nonneg h4 de.length (Nat.le_refl _)).1
  rw [List.take_length] at hD
  have hl := left_bd (freeS total le) (sumL de) de rfl (by omega) (by omega)
  have hs := srt_srt (shr (freeS total le) (sumL de) de) de.length
  have hleft : leftS total de le = freeS total le - qsum (freeS total le) (sumL de) de de.length := rfl
  refine ⟨by omega, by unfold freeS; omega, by omega, by omega, ?_, ?_, ?_⟩
  · exact hs.nodup.sublist (List.take_sublist _ _)
  · exact fun i hi => hs.mem.mp (List.mem_of_mem_take hi)
  · rw [luckS, List.length_take, hs.length]
    omega
theorem splitF_len {total : Int} {de le : List Int} (h : validS total de le = true) : (splitF total de le).length = de.length := by
  obtain ⟨h1, h2, h3, h4, h5, h6⟩ := validS_parts h
  rw [splitF, if_pos h]
  split
  · rw [List.length_set]; exact h3
  · rw [splitG, mapN_length]
theorem ga_set {l : List Int} {k : Nat} {v : Int} (hk : k < l.length) (i : Nat) : ga (l.set k v) i = if i = k then v else ga l i := by
  by_cases e : i = k
  · subst e; simp [ga, hk]
  · simp [ga, e, Ne.symm e]
theorem splitF_ga {total : Int} {de le : List Int} (h : validS total de le = true) {i : Nat} (hi : i < de.length) :
    ga (splitF total de le) i = if sumL de = 0 then (if i = 0 then ga le 0 + freeS total le else ga le i) else ga le i + shq (freeS total le) (sumL de) de i + if i ∈ luckS total de le then 1 else 0 := by
  obtain ⟨h1, h2, h3, h4, h5, h6⟩ := validS_parts h
  rw [splitF, if_pos h]
  split
  · rw [ga_set (by omega)]
  · rw [splitG, ga_mapN hi]
theorem de_bd {total : Int} {de le : List Int} (h : validS total de le = true) {i : Nat} (hi : i < de.length) : 0 ≤ ga de i ∧ ga de i ≤ sumL de := by
  obtain ⟨h1, h2, h3, h4, h5, h6⟩ := validS_parts h
  have h7 := allB_at h4 hi
  rw [ga_at hi] at h7
  have h8 := ga_le_sum h4 de.length (Nat.le_refl _) i hi
  rw [List.take_length] at h8
  omega
/-- Nobody has less than the least green. -/
theorem split_least {total : Int} {de le : List Int} (h : validS total de le = true) {i : Nat} (hi : i < de.length) : ga le i ≤ ga (splitF total de le) i := by
  rw [splitF_ga h hi]
  obtain ⟨h1, h2, h3, h4, h5, h6⟩ := validS_parts h
  have hF : 0 ≤ freeS total le := by unfold freeS; omega
  split
  · split
    · rename_i e; subst e; omega
    · exact Int.le_refl _
  · rename_i h0
    obtain ⟨hD, _⟩ := luck_facts h h0
    have hd := de_bd h hi
    have := (shq_bd (freeS total le) (sumL de) de i hD hF hd.1 hd.2).1
    split <;> omega
theorem sumL_cons (x : Int) (l : List Int) : sumL (x :: l) = x + sumL l := by
  have key : ∀ (l : List Int) (a b : Int), l.foldl (· + ·) (a + b) = a + l.foldl (· + ·) b := by
    intro l
    induction l with
    | nil => intro a b; rfl
    | cons y l ih => intro a b; rw [List.foldl_cons, List.foldl_cons, Int.add_assoc, ih]
  simp only [sumL, List.foldl_cons]
  rw [show (0 : Int) + x = x + 0 by omega, key]
/-- Nothing is lost. -/
theorem split_sum {total : Int} {de le : List Int} (h : validS total de le = true) : sumL (splitF total de le) = total := by
  obtain ⟨h1, h2, h3, h4, h5, h6⟩ := validS_parts h
  rw [splitF, if_pos h]
  split
  · match le, h3 with
    | [], h3 => simp at h3; omega
    | x :: l, h3 =>
      have hf : freeS total (x :: l) = total - (x + sumL l) := by rw [freeS, sumL_cons]
      rw [List.set_cons_zero, sumL_cons, hf]
      simp [ga]
      omega
  · rename_i h0
    obtain ⟨hD, hF, hl0, hl1, hnd, hlt, hlen⟩ := luck_facts h h0
    rw [splitG, sumL_split _ _ _ _ _ _ (by omega), cnt_all hnd hlt, hlen, leftS, ← h3, List.take_length, freeS]
    omega
theorem small_split {total : Int} {de le : List Int} (h : validS total de le = true) : Small (splitF total de le) := by
  have hl := splitF_len h
  obtain ⟨h1, h2, h3, h4, h5, h6⟩ := validS_parts h
  refine ⟨by omega, fun z hz => ?_⟩
  obtain ⟨i, hi, rfl⟩ := List.getElem_of_mem hz
  rw [ga_at hi, splitF_ga h (by omega)]
  have hF : 0 ≤ freeS total le := by unfold freeS; omega
  have hS : 0 ≤ sumL le := by
    have : ∀ l : List Int, allB l 0 180 = true → 0 ≤ sumL l := by
      intro l
      induction l with
      | nil => intro _; simp [sumL]
      | cons x l ih =>
        intro h
        simp only [allB, List.all_cons, Bool.and_eq_true] at h
        have := ih h.2
        have h9 := h.1
        simp [inB] at h9
        rw [sumL_cons]; omega
    exact this le h5
  have hF2 : freeS total le ≤ 180 := by unfold freeS; omega
  have hg : ∀ j, j < le.length → 0 ≤ ga le j ∧ ga le j ≤ 180 := fun j hj => by
    have := allB_at h5 hj
    rwa [ga_at hj] at this
  have g1 := hg i (by omega)
  have g0 := hg 0 (by omega)
  split
  · split <;> omega
  · rename_i h0
    obtain ⟨hD, _⟩ := luck_facts h h0
    have hd := de_bd h (show i < de.length by omega)
    have := shq_bd (freeS total le) (sumL de) de i hD hF hd.1 hd.2
    split <;> omega

/-- More demand has more green. -/
theorem split_order {total : Int} {de le : List Int} (h : validS total de le = true) {i k : Nat} (hi : i < de.length) (hk : k < de.length) (hd : ga de k < ga de i) (hl : ga le i = ga le k) : ga (splitF total de le) k ≤ ga (splitF total de le) i := by
  rw [splitF_ga h hi, splitF_ga h hk]
  have hbi := de_bd h hi
  have hbk := de_bd h hk
  by_cases h0 : sumL de = 0
  · omega
  · rw [if_neg h0, if_neg h0]
    obtain ⟨hD, hF, hl0, hl1, hnd, hlt, hlen⟩ := luck_facts h h0
    have hq : shq (freeS total le) (sumL de) de k ≤ shq (freeS total le) (sumL de) de i := Int.ediv_le_ediv hD (Int.mul_le_mul_of_nonneg_left (by omega) hF)
    have ei : sumL de * shq (freeS total le) (sumL de) de i + shr (freeS total le) (sumL de) de i = freeS total le * ga de i := Int.mul_ediv_add_emod _ _
    have ek : sumL de * shq (freeS total le) (sumL de) de k + shr (freeS total le) (sumL de) de k = freeS total le * ga de k := Int.mul_ediv_add_emod _ _
    by_cases hqe : shq (freeS total le) (sumL de) de k = shq (freeS total le) (sumL de) de i
    · by_cases hmk : k ∈ luckS total de le
      · have hF0 : 0 < freeS total le := by
          refine Int.not_le.mp fun hle => ?_
          have hF1 : freeS total le = 0 := by omega
          have hz : leftS total de le = 0 := by
            rw [leftS, hF1]
            have : ∀ n, qsum 0 (sumL de) de n = 0 := fun n => by
              induction n with
              | zero => rfl
              | succ n ih => rw [qsum, ih, shq]; simp
            rw [this]; rfl
          rw [hz] at hlen
          have : luckS total de le = [] := List.eq_nil_of_length_eq_zero (by omega)
          rw [this] at hmk
          simp at hmk
        have hr : shr (freeS total le) (sumL de) de k < shr (freeS total le) (sumL de) de i := by
          have := Int.mul_lt_mul_of_pos_left hd hF0
          rw [hqe] at ek
          omega
        have hmi : i ∈ luckS total de le := by
          have hs := srt_srt (shr (freeS total le) (sumL de) de) de.length
          rw [luckS] at hmk ⊢
          rw [List.mem_take_iff_getElem] at hmk
          obtain ⟨t, ht, e⟩ := hmk
          refine Classical.byContradiction fun hno => ?_
          have hne : i ≠ (srt (shr (freeS total le) (sumL de) de) de.length)[t] := fun e2 => by rw [e] at e2; subst e2; omega
          have hb := hs.first (t := t) (by omega) hi (fun hm => hno (by
            obtain ⟨u, hu, e3⟩ := List.mem_take_iff_getElem.mp hm
            exact List.mem_take_iff_getElem.mpr ⟨u, by omega, e3⟩)) hne
          rw [e] at hb
          simp only [bef] at hb
          omega
        rw [if_pos hmk, if_pos hmi]
        omega
      · rw [if_neg hmk]
        split <;> omega
    · split <;> split <;> omega

theorem rest_le {F D : Int} {de : List Int} {l : List Nat} (hD : 0 < D) (n : Nat) (h : ∀ j, j < n → j ∉ l → shr F D de j ≤ 0) : rsum F D de n ≤ (D - 1) * cnt l n := by
  induction n with
  | zero => simp [rsum, cnt]
  | succ n ih =>
    have h1 := ih fun j hj => h j (by omega)
    have h2 := shr_bd F D de n hD
    rw [rsum, cnt, Int.mul_add]
    by_cases hm : n ∈ l
    · rw [if_pos hm]; omega
    · rw [if_neg hm]
      have := h n (by omega) hm
      omega
/-- Who has a second more had a rest. -/
theorem luck_rest {total : Int} {de le : List Int} (h : validS total de le = true) (h0 : sumL de ≠ 0) {i : Nat} (hi : i ∈ luckS total de le) : 0 < shr (freeS total le) (sumL de) de i := by
  obtain ⟨hD, hF, hl0, hl1, hnd, hlt, hlen⟩ := luck_facts h h0
  have hb := shr_bd (freeS total le) (sumL de) de i hD
  refine Int.not_le.mp fun hle => ?_
  have hs := srt_srt (shr (freeS total le) (sumL de) de) de.length
  have hsum := share_sum (freeS total le) (sumL de) de de.length (Nat.le_refl _)
  rw [List.take_length] at hsum
  have hrs : rsum (freeS total le) (sumL de) de de.length = sumL de * leftS total de le := by
    rw [leftS, Int.mul_sub, Int.mul_comm (sumL de) (freeS total le)]
    omega
  have hz : ∀ j, j < de.length → j ∉ (luckS total de le).erase i → shr (freeS total le) (sumL de) de j ≤ 0 := by
    intro j hj hno
    by_cases e : j = i
    · subst e; exact hle
    · have hj2 : j ∉ luckS total de le := fun hm => hno ((List.Nodup.mem_erase_iff hnd).mpr ⟨e, hm⟩)
      have hi2 := hi
      rw [luckS, List.mem_take_iff_getElem] at hi2
      obtain ⟨t, ht, e2⟩ := hi2
      have hbef := hs.first (t := t) (by omega) hj (fun hm => hj2 (by
        rw [luckS]
        obtain ⟨u, hu, e3⟩ := List.mem_take_iff_getElem.mp hm
        exact List.mem_take_iff_getElem.mpr ⟨u, by omega, e3⟩)) (by rw [e2]; exact e)
      rw [e2] at hbef
      simp only [bef] at hbef
      omega
  have h1 := rest_le (l := (luckS total de le).erase i) hD de.length hz
  rw [cnt_all (hnd.erase i) (fun j hj => hlt j (List.mem_of_mem_erase hj)), List.length_erase_of_mem hi, hrs] at h1
  have hpos : 0 < (luckS total de le).length := List.length_pos_of_mem hi
  have e : (((luckS total de le).length - 1 : Nat) : Int) = leftS total de le - 1 := by omega
  rw [e, Int.sub_mul, Int.mul_sub] at h1
  omega
/-- Shares are nearly exact. -/
theorem split_exact {total : Int} {de le : List Int} (h : validS total de le = true) (h0 : sumL de ≠ 0) {i : Nat} (hi : i < de.length) :
    (ga (splitF total de le) i - ga le i) * sumL de - freeS total le * ga de i < sumL de ∧ -((ga (splitF total de le) i - ga le i) * sumL de - freeS total le * ga de i) < sumL de := by
  obtain ⟨hD, hF, hl0, hl1, hnd, hlt, hlen⟩ := luck_facts h h0
  rw [splitF_ga h hi, if_neg h0]
  have ei : sumL de * shq (freeS total le) (sumL de) de i + shr (freeS total le) (sumL de) de i = freeS total le * ga de i := Int.mul_ediv_add_emod _ _
  have hb := shr_bd (freeS total le) (sumL de) de i hD
  by_cases hm : i ∈ luckS total de le
  · have hr := luck_rest h h0 hm
    rw [if_pos hm, show ga le i + shq (freeS total le) (sumL de) de i + 1 - ga le i = shq (freeS total le) (sumL de) de i + 1 by omega, Int.add_mul, Int.mul_comm]
    omega
  · rw [if_neg hm, show ga le i + shq (freeS total le) (sumL de) de i + 0 - ga le i = shq (freeS total le) (sumL de) de i by omega, Int.mul_comm]
    omega
theorem sumL_le {a b : List Int} (hl : a.length = b.length) (h : ∀ i, i < a.length → ga b i ≤ ga a i) : sumL b ≤ sumL a := by
  induction a generalizing b with
  | nil => rw [List.eq_nil_of_length_eq_zero hl.symm]; exact Int.le_refl _
  | cons x a ih =>
    match b, hl with
    | y :: b, hl =>
      rw [sumL_cons, sumL_cons]
      have h1 := h 0 (by simp)
      have h2 := ih (b := b) (by simpa using hl) fun i hi => by have := h (i + 1) (by simpa using hi); simpa [ga] using this
      simp [ga] at h1
      omega
/-- With one second more somebody gets more. -/
theorem split_more_some {total : Int} {de le : List Int} (h : validS total de le = true) (hv : validS (total + 1) de le = true) : ∃ i, i < de.length ∧ ga (splitF total de le) i < ga (splitF (total + 1) de le) i := by
  refine Classical.byContradiction fun hno => ?_
  have h1 := sumL_le (a := splitF total de le) (b := splitF (total + 1) de le) (by rw [splitF_len h, splitF_len hv]) fun i hi => by
    rw [splitF_len h] at hi
    exact Int.not_lt.mp fun hlt => hno ⟨i, hi, hlt⟩
  rw [split_sum h, split_sum hv] at h1
  omega
theorem validS_more {total : Int} {de le : List Int} (h : validS total de le = true) (hne : total ≠ 180) : validS (total + 1) de le = true := by
  obtain ⟨h1, h2, h3, h4, h5, h6⟩ := validS_parts h
  have g1 : inB (total + 1) 0 180 = true := by simp [inB]; omega
  have g2 : inB (de.length : Int) 1 5 = true := by simp [inB]; omega
  simp [validS, g1, g2, h3, h4, h5]
  omega
end Go.Proofs.Ytknddadgmbkpnaa
