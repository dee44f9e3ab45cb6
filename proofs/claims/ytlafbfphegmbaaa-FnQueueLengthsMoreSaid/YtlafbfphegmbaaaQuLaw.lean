/-
  Plain laws of the queue: what its lists promise.
-/
import Derived.Test.YtlafbfphegmbaaaLs
import Derived.Test.YtlafbfphegmbaaaQuMath
namespace Go.Proofs.Ytlafbfphegmbaaa
set_option linter.unusedVariables false

theorem depart_mem (ar : List Int) (gr : List Bool) (k : Nat) (z : Int) (hz : z ∈ departTo ar gr k) : ∃ i : Nat, z = i ∧ i < k ∧ gg gr i = true := by
  simp only [departTo, List.mem_map, List.mem_filter, List.mem_range] at hz
  obtain ⟨i, ⟨h1, h2⟩, rfl⟩ := hz
  simp only [dep, Bool.and_eq_true] at h2
  exact ⟨i, rfl, h1, h2.1⟩
theorem depart_pairwise (ar : List Int) (gr : List Bool) (k : Nat) : (departTo ar gr k).Pairwise (· < ·) := by
  rw [departTo, List.pairwise_map]
  exact (List.Pairwise.filter _ List.pairwise_lt_range).imp (fun h => by omega)
theorem depart_asc (ar : List Int) (gr : List Bool) (k i : Nat) (h0 : 0 < i) (h : i < (departTo ar gr k).length) : (departTo ar gr k)[i - 1] < (departTo ar gr k)[i] :=
  List.pairwise_iff_getElem.mp (depart_pairwise ar gr k) _ _ _ _ (by omega)

/-- How many cars came before second k. -/
theorem came_sum (ar : List Int) (h : Few ar) (k : Nat) (hk : k ≤ ar.length) : ((cameTo ar k).length : Int) = sumL (ar.take k) := by
  induction k with
  | zero => simp [cameTo, sumL]
  | succ k ih =>
    have h1 := ih (by omega)
    have h2 := h k
    rw [cameTo_succ, List.length_append, List.length_replicate, sumL_take ar k (by omega)]
    have : ga ar k = ar[k] := by simp [ga, show k < ar.length by omega]
    omega

/-- The departures up to second i, counted in the whole list. -/
def cnt (zs : List Int) (i : Int) : Nat := zs.countP (fun z => decide (z ≤ i))
theorem cnt_take (zs : List Int) (i : Int) (j : Nat) (h : j < zs.length) : cnt (zs.take (j + 1)) i = cnt (zs.take j) i + (if zs[j] ≤ i then 1 else 0) := by
  rw [List.take_succ_eq_append_getElem h, cnt, List.countP_append]
  simp [cnt]
theorem cnt_le (zs : List Int) (i : Int) : cnt zs i ≤ zs.length := List.countP_le_length
theorem cnt_depart (ar : List Int) (gr : List Bool) (i k : Nat) (h : i < k) : cnt (departTo ar gr k) i = (departTo ar gr (i + 1)).length := by
  induction k with
  | zero => omega
  | succ k ih =>
    by_cases hk : i < k
    · rw [← ih hk, departTo_succ]
      split
      · rw [cnt, List.countP_append]
        simp [cnt]
        omega
      · rfl
    · obtain rfl : i = k := by omega
      rw [cnt, List.countP_eq_length]
      intro z hz
      have := departTo_bd ar gr _ z hz
      simp; omega
theorem qlen_law (ar : List Int) (gr : List Bool) (h : Few ar) (i k : Nat) (hi : i < k) (hk : k ≤ ar.length) : qlen ar gr (i + 1) = sumL (ar.take (i + 1)) - (cnt (departTo ar gr k) i : Int) := by
  rw [qlen_eq ar gr h, came_sum ar h (i + 1) (by omega), cnt_depart ar gr i k hi]

theorem qlen_cases (ar : List Int) (gr : List Bool) (k : Nat) :
    (gg gr k = true ∧ 0 < qlen ar gr k + ga ar k ∧ qlen ar gr (k + 1) = qlen ar gr k + ga ar k - 1) ∨ (gg gr k = true ∧ qlen ar gr k + ga ar k ≤ 0 ∧ qlen ar gr (k + 1) = qlen ar gr k + ga ar k) ∨ (gg gr k = false ∧ qlen ar gr (k + 1) = qlen ar gr k + ga ar k) := by
  rw [qlen_succ]
  cases hg : gg gr k with
  | false => simp [dep, hg]
  | true =>
    by_cases h : 0 < qlen ar gr k + ga ar k
    · have : dep ar gr k = true := by simp [dep, hg, h]
      rw [if_pos this]
      exact .inl ⟨rfl, h, rfl⟩
    · have : dep ar gr k = false := by simp [dep, hg, h]
      rw [if_neg (by rw [this]; decide)]
      exact .inr (.inl ⟨rfl, by omega, rfl⟩)

/-- Green all the time is best, red all the time is worst. -/
theorem best_le (ar : List Int) (gr : List Bool) (h : Few ar) (k n : Nat) (hk : k ≤ n) : qlen ar (List.replicate n true) k ≤ qlen ar gr k := by
  induction k with
  | zero => simp [qlen]
  | succ k ih =>
    have h1 := ih (by omega)
    have h2 := h k
    have h3 := qlen_bd ar (List.replicate n true) h k
    have hg : gg (List.replicate n true) k = true := by simp [gg, show k < n by omega]
    have c1 := qlen_cases ar (List.replicate n true) k
    have c2 := qlen_cases ar gr k
    rw [hg] at c1
    simp only [true_and, reduceCtorEq, false_and, or_false] at c1
    omega
theorem worst_eq (ar : List Int) (h : Few ar) (n k : Nat) (hk : k ≤ ar.length) : qlen ar (List.replicate n false) k = sumL (ar.take k) := by
  have hd : ∀ j, dep ar (List.replicate n false) j = false := by
    intro j
    have : gg (List.replicate n false) j = false := by
      simp only [gg, List.getD_eq_getElem?_getD, List.getElem?_replicate]
      split <;> rfl
    simp [dep, this]
  induction k with
  | zero => simp [qlen, sumL]
  | succ k ih =>
    rw [qlen_succ, if_neg (by rw [hd]; decide), sumL_take ar k (by omega), ih (by omega)]
    simp [ga, show k < ar.length by omega]

/-- One more car in the first second. -/
theorem more_le (a : Int) (ar : List Int) (gr : List Bool) (h : Few (a :: ar)) (k : Nat) :
    qlen (a :: ar) gr k ≤ qlen ((a + 1) :: ar) gr k ∧ qlen ((a + 1) :: ar) gr k ≤ qlen (a :: ar) gr k + 1 := by
  induction k with
  | zero => simp [qlen]
  | succ k ih =>
    have h3 := qlen_bd (a :: ar) gr h k
    have h2 := h k
    have c1 := qlen_cases (a :: ar) gr k
    have c2 := qlen_cases ((a + 1) :: ar) gr k
    cases k with
    | zero =>
      have e1 : ga (a :: ar) 0 = a := rfl
      have e2 : ga ((a + 1) :: ar) 0 = a + 1 := rfl
      have q1 : qlen (a :: ar) gr 0 = 0 := rfl
      have q2 : qlen ((a + 1) :: ar) gr 0 = 0 := rfl
      rw [e1] at h2
      rw [e1, q1] at c1
      rw [e2, q2] at c2
      cases hg : gg gr 0 <;> rw [hg] at c1 c2 <;> simp only [true_and, reduceCtorEq, false_and, or_false, false_or] at c1 c2 <;> omega
    | succ k =>
      have e1 : ga ((a + 1) :: ar) (k + 1) = ga (a :: ar) (k + 1) := rfl
      rw [e1] at c2
      cases hg : gg gr (k + 1) <;> rw [hg] at c1 c2 <;> simp only [true_and, reduceCtorEq, false_and, or_false, false_or] at c1 c2 <;> omega

/-- Nobody leaves before coming. -/
theorem waits_nonneg (ar : List Int) (gr : List Bool) (h : Few ar) (k : Nat) : ∀ z ∈ waitsTo ar gr k, 0 ≤ z := by
  have key : ∀ k i (h1 : i < (departTo ar gr k).length) (h2 : i < (cameTo ar k).length), (cameTo ar k)[i] ≤ (departTo ar gr k)[i] := by
    intro k
    induction k with
    | zero => intro i h1; simp [departTo] at h1
    | succ k ih =>
      intro i h1 h2
      have hle := depart_le ar gr h k
      by_cases hi : i < (departTo ar gr k).length
      · have := ih i hi (by omega)
        have e1 : (departTo ar gr (k + 1))[i] = (departTo ar gr k)[i] := by
          simp only [departTo_succ]
          split
          · rw [List.getElem_append_left hi]
          · rfl
        have e2 : (cameTo ar (k + 1))[i] = (cameTo ar k)[i]'(by omega) := by
          simp only [cameTo_succ]
          rw [List.getElem_append_left (by omega)]
        omega
      · have hb := cameTo_bd ar (k + 1) _ (List.getElem_mem h2)
        have e1 : (departTo ar gr (k + 1))[i] = k := by
          have h3 := h1
          rw [departTo_succ] at h3
          by_cases hd : dep ar gr k = true
          · rw [if_pos hd] at h3
            simp at h3
            have : i = (departTo ar gr k).length := by omega
            subst this
            simp only [departTo_succ, hd, if_true]
            simp
          · rw [if_neg hd] at h3
            omega
        omega
  intro z hz
  obtain ⟨i, hi, rfl⟩ := List.getElem_of_mem hz
  have hl := waits_length ar gr h k
  have hle := depart_le ar gr h k
  rw [waits_get2 ar gr k i hi (by omega) (by omega)]
  have := key k i (by omega) (by omega)
  omega

/-- Delays are waits. -/
def restL (zs : List Int) (n : Int) : Int := sumL (zs.map (fun z => n - z))
theorem restL_nil (n : Int) : restL [] n = 0 := rfl
theorem sumL_append (xs ys : List Int) : sumL (xs ++ ys) = sumL xs + sumL ys := by
  have key : ∀ (ys : List Int) (a b : Int), ys.foldl (· + ·) (a + b) = a + ys.foldl (· + ·) b := by
    intro ys
    induction ys with
    | nil => intro a b; rfl
    | cons y ys ih => intro a b; simp only [List.foldl_cons]; rw [Int.add_assoc, ih]
  have h := key ys (sumL xs) 0
  rw [Int.add_zero] at h
  simp only [sumL, List.foldl_append] at h ⊢
  exact h
theorem sumL_cons (x : Int) (ys : List Int) : sumL (x :: ys) = x + sumL ys := by
  have := sumL_append [x] ys
  simpa [sumL] using this
theorem restL_append (xs ys : List Int) (n : Int) : restL (xs ++ ys) n = restL xs n + restL ys n := by simp [restL, sumL_append]
theorem restL_succ (xs : List Int) (n : Int) : restL xs (n + 1) = restL xs n + xs.length := by
  induction xs with
  | nil => simp [restL, sumL]
  | cons x xs ih =>
    simp only [restL, List.map_cons, sumL_cons, List.length_cons] at ih ⊢
    omega
theorem restL_same (c : Nat) (n : Int) : restL (List.replicate c n) n = 0 := by
  induction c with
  | zero => rfl
  | succ c ih =>
    simp only [restL, List.replicate_succ, List.map_cons, sumL_cons] at ih ⊢
    omega
theorem waits_eq (ar : List Int) (gr : List Bool) (h : Few ar) (k : Nat) : waitsTo ar gr k = List.zipWith (fun d c => d - c) (departTo ar gr k) (goneAt ar gr k) := by
  apply List.ext_getElem
  · rw [waits_length ar gr h, List.length_zipWith, goneAt_length ar gr h]; omega
  · intro i h1 h2
    have hl := waits_length ar gr h k
    have hg := goneAt_length ar gr h k
    rw [waits_get ar gr k i h1 (by omega) (by omega)]
    simp
theorem delay_law (ar : List Int) (gr : List Bool) (h : Few ar) (k : Nat) : sumL (queuesTo ar gr k) = sumL (waitsTo ar gr k) + restL (queueAt ar gr k) k := by
  induction k with
  | zero => simp [queuesTo, waitsTo, departTo, queueAt, cameTo, sumL, restL]
  | succ k ih =>
    have hq := fullAt_length ar gr h k
    have hr : restL (fullAt ar gr k) k = restL (queueAt ar gr k) k := by rw [fullAt, restL_append, restL_same]; omega
    have hs : sumL (queuesTo ar gr (k + 1)) = sumL (queuesTo ar gr k) + qlen ar gr (k + 1) := by rw [queuesTo_succ, sumL_snoc]
    rw [show ((k + 1 : Nat) : Int) = (k : Int) + 1 by omega, restL_succ, hs, ih, qlen_succ]
    rw [waits_eq ar gr h, waits_eq ar gr h]
    cases hd : dep ar gr k
    · obtain ⟨h1, h2, h3⟩ := at_no ar gr h k hd
      rw [h1, h2, h3, if_neg (by decide), hr]
      omega
    · obtain ⟨x, h1, h2, h3⟩ := at_yes ar gr h k hd
      rw [h2, h3, if_pos rfl, List.zipWith_append (by rw [goneAt_length ar gr h]), sumL_append]
      have e : restL (fullAt ar gr k) k = (k - x) + restL (queueAt ar gr (k + 1)) k := by rw [h1]; simp [restL, sumL_cons]
      have hl : (fullAt ar gr k).length = (queueAt ar gr (k + 1)).length + 1 := by rw [h1]; simp
      have e2 : sumL (List.zipWith (fun d c => d - c) [(k : Int)] [x]) = k - x := by simp [sumL]
      omega
end Go.Proofs.Ytlafbfphegmbaaa
