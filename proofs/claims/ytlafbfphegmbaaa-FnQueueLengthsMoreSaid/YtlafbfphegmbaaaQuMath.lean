/-
  Queues as plain functions: lengths, departures, arrivals. Nothing of the program is named here.
-/
namespace Go.Proofs.Ytlafbfphegmbaaa

def ga (ar : List Int) (k : Nat) : Int := ar.getD k 0
def gg (gr : List Bool) (k : Nat) : Bool := gr.getD k false
def qlen (ar : List Int) (gr : List Bool) : Nat → Int
  | 0 => 0
  | k + 1 => if gg gr k && decide (0 < qlen ar gr k + ga ar k) then qlen ar gr k + ga ar k - 1 else qlen ar gr k + ga ar k
def dep (ar : List Int) (gr : List Bool) (k : Nat) : Bool := gg gr k && decide (0 < qlen ar gr k + ga ar k)
def queuesTo (ar : List Int) (gr : List Bool) (k : Nat) : List Int := (List.range k).map fun i => qlen ar gr (i + 1)
def departTo (ar : List Int) (gr : List Bool) (k : Nat) : List Int := ((List.range k).filter (dep ar gr)).map fun (i : Nat) => (i : Int)
def cameTo (ar : List Int) (k : Nat) : List Int := (List.range k).flatMap fun (i : Nat) => List.replicate (ga ar i).toNat (i : Int)
def waitsTo (ar : List Int) (gr : List Bool) (k : Nat) : List Int := List.zipWith (fun d c => d - c) (departTo ar gr k) (cameTo ar k)

theorem qlen_succ (ar : List Int) (gr : List Bool) (k : Nat) : qlen ar gr (k + 1) = if dep ar gr k then qlen ar gr k + ga ar k - 1 else qlen ar gr k + ga ar k := rfl
theorem queuesTo_succ (ar : List Int) (gr : List Bool) (k : Nat) : queuesTo ar gr (k + 1) = queuesTo ar gr k ++ [qlen ar gr (k + 1)] := by
  simp [queuesTo, List.range_succ]
theorem queuesTo_length (ar : List Int) (gr : List Bool) (k : Nat) : (queuesTo ar gr k).length = k := by simp [queuesTo]
theorem departTo_succ (ar : List Int) (gr : List Bool) (k : Nat) : departTo ar gr (k + 1) = if dep ar gr k then departTo ar gr k ++ [(k : Int)] else departTo ar gr k := by
  simp only [departTo, List.range_succ, List.filter_append, List.map_append]
  by_cases h : dep ar gr k = true <;> simp [h]
theorem departTo_length (ar : List Int) (gr : List Bool) (k : Nat) : (departTo ar gr k).length ≤ k := by
  simp only [departTo, List.length_map]
  exact Nat.le_trans (List.length_filter_le _ _) (by simp)
theorem cameTo_succ (ar : List Int) (k : Nat) : cameTo ar (k + 1) = cameTo ar k ++ List.replicate (ga ar k).toNat (k : Int) := by
  simp [cameTo, List.range_succ]

/-- Every second has 0 to 3 arrivals. -/
def Few (ar : List Int) : Prop := ∀ k, 0 ≤ ga ar k ∧ ga ar k ≤ 3
theorem few_of {ar : List Int} (h : ∀ z ∈ ar, 0 ≤ z ∧ z ≤ 3) : Few ar := by
  intro k
  simp only [ga, List.getD_eq_getElem?_getD]
  by_cases hk : k < ar.length
  · simp [hk]; exact h _ (List.getElem_mem _)
  · simp [hk]
theorem cameTo_length (ar : List Int) (h : Few ar) (k : Nat) : (cameTo ar k).length ≤ 3 * k := by
  induction k with
  | zero => simp [cameTo]
  | succ k ih =>
    rw [cameTo_succ, List.length_append, List.length_replicate]
    have := h k
    omega
theorem qlen_bd (ar : List Int) (gr : List Bool) (h : Few ar) (k : Nat) : 0 ≤ qlen ar gr k ∧ qlen ar gr k ≤ 3 * k := by
  induction k with
  | zero => simp [qlen]
  | succ k ih =>
    have h1 := h k
    by_cases hd : dep ar gr k = true
    · have h2 := hd
      simp only [dep, Bool.and_eq_true, decide_eq_true_eq] at h2
      rw [qlen_succ, if_pos hd]
      omega
    · rw [qlen_succ, if_neg hd]
      omega
/-- The queue holds who came and has not left. -/
theorem qlen_eq (ar : List Int) (gr : List Bool) (h : Few ar) (k : Nat) : qlen ar gr k = ((cameTo ar k).length : Int) - ((departTo ar gr k).length : Int) := by
  induction k with
  | zero => rfl
  | succ k ih =>
    have h1 := h k
    rw [qlen_succ, cameTo_succ, departTo_succ, List.length_append, List.length_replicate]
    split <;> simp <;> omega
theorem depart_le (ar : List Int) (gr : List Bool) (h : Few ar) (k : Nat) : (departTo ar gr k).length ≤ (cameTo ar k).length := by
  have h1 := qlen_eq ar gr h k
  have h2 := qlen_bd ar gr h k
  omega

/-- The queue at second k: who came and has not left; who came and has left. -/
def queueAt (ar : List Int) (gr : List Bool) (k : Nat) : List Int := (cameTo ar k).drop (departTo ar gr k).length
def goneAt (ar : List Int) (gr : List Bool) (k : Nat) : List Int := (cameTo ar k).take (departTo ar gr k).length
/-- The queue behind the arrivals of second k. -/
def fullAt (ar : List Int) (gr : List Bool) (k : Nat) : List Int := queueAt ar gr k ++ List.replicate (ga ar k).toNat (k : Int)
theorem fullAt_eq (ar : List Int) (gr : List Bool) (h : Few ar) (k : Nat) : fullAt ar gr k = (cameTo ar (k + 1)).drop (departTo ar gr k).length := by
  rw [fullAt, queueAt, cameTo_succ, List.drop_append_of_le_length (depart_le ar gr h k)]
theorem fullAt_length (ar : List Int) (gr : List Bool) (h : Few ar) (k : Nat) : ((fullAt ar gr k).length : Int) = qlen ar gr k + ga ar k := by
  have h1 := qlen_eq ar gr h k
  have h2 := depart_le ar gr h k
  have h3 := h k
  simp only [fullAt, queueAt, List.length_append, List.length_drop, List.length_replicate]
  omega
theorem queueAt_length (ar : List Int) (gr : List Bool) (h : Few ar) (k : Nat) : (queueAt ar gr k).length ≤ 3 * k := by
  have := cameTo_length ar h k
  simp only [queueAt, List.length_drop]
  omega
theorem goneAt_length (ar : List Int) (gr : List Bool) (h : Few ar) (k : Nat) : (goneAt ar gr k).length = (departTo ar gr k).length := by
  have := depart_le ar gr h k
  simp only [goneAt, List.length_take]
  omega
theorem at_no (ar : List Int) (gr : List Bool) (h : Few ar) (k : Nat) (hd : dep ar gr k = false) : queueAt ar gr (k + 1) = fullAt ar gr k ∧ goneAt ar gr (k + 1) = goneAt ar gr k ∧ departTo ar gr (k + 1) = departTo ar gr k := by
  have e : departTo ar gr (k + 1) = departTo ar gr k := by rw [departTo_succ, if_neg (by rw [hd]; decide)]
  refine ⟨?_, ?_, e⟩
  · rw [fullAt_eq ar gr h, queueAt, e]
  · rw [goneAt, goneAt, e, cameTo_succ, List.take_append_of_le_length (depart_le ar gr h k)]
theorem at_yes (ar : List Int) (gr : List Bool) (h : Few ar) (k : Nat) (hd : dep ar gr k = true) :
    ∃ x, fullAt ar gr k = x :: queueAt ar gr (k + 1) ∧ goneAt ar gr (k + 1) = goneAt ar gr k ++ [x] ∧ departTo ar gr (k + 1) = departTo ar gr k ++ [(k : Int)] := by
  have e : departTo ar gr (k + 1) = departTo ar gr k ++ [(k : Int)] := by rw [departTo_succ, if_pos hd]
  have hl := fullAt_length ar gr h k
  have h2 := hd
  simp only [dep, Bool.and_eq_true, decide_eq_true_eq] at h2
  have hlt : (departTo ar gr k).length < (cameTo ar (k + 1)).length := by
    rw [fullAt_eq ar gr h, List.length_drop] at hl
    omega
  refine ⟨(cameTo ar (k + 1))[(departTo ar gr k).length], ?_, ?_, e⟩
  · rw [fullAt_eq ar gr h, queueAt, e, List.length_append, List.length_singleton, ← List.drop_eq_getElem_cons hlt]
  · rw [goneAt, e, List.length_append, List.length_singleton, List.take_succ_eq_append_getElem hlt, goneAt]
    congr 1
    rw [cameTo_succ, List.take_append_of_le_length (depart_le ar gr h k)]
theorem waits_length (ar : List Int) (gr : List Bool) (h : Few ar) (k : Nat) : (waitsTo ar gr k).length = (departTo ar gr k).length := by
  have := depart_le ar gr h k
  simp only [waitsTo, List.length_zipWith]
  omega
theorem waits_get (ar : List Int) (gr : List Bool) (k i : Nat) (h1 : i < (waitsTo ar gr k).length) (h2 : i < (departTo ar gr k).length) (h3 : i < (goneAt ar gr k).length) :
    (waitsTo ar gr k)[i] = (departTo ar gr k)[i] - (goneAt ar gr k)[i] := by
  simp [waitsTo, goneAt]
theorem waits_get2 (ar : List Int) (gr : List Bool) (k i : Nat) (h1 : i < (waitsTo ar gr k).length) (h2 : i < (departTo ar gr k).length) (h3 : i < (cameTo ar k).length) :
    (waitsTo ar gr k)[i] = (departTo ar gr k)[i] - (cameTo ar k)[i] := by
  simp [waitsTo]
theorem departTo_bd (ar : List Int) (gr : List Bool) (k : Nat) : ∀ z ∈ departTo ar gr k, 0 ≤ z ∧ z < k := by
  intro z hz
  simp only [departTo, List.mem_map, List.mem_filter, List.mem_range] at hz
  obtain ⟨i, ⟨h1, _⟩, rfl⟩ := hz
  omega
theorem cameTo_bd (ar : List Int) (k : Nat) : ∀ z ∈ cameTo ar k, 0 ≤ z ∧ z < k := by
  intro z hz
  simp only [cameTo, List.mem_flatMap, List.mem_range, List.mem_replicate] at hz
  obtain ⟨i, h1, _, rfl⟩ := hz
  omega
theorem goneAt_bd (ar : List Int) (gr : List Bool) (k : Nat) : ∀ z ∈ goneAt ar gr k, 0 ≤ z ∧ z < k := fun z hz => cameTo_bd ar k z (List.mem_of_mem_take hz)
theorem cameTo_nil (ar : List Int) : cameTo ar 0 = [] := rfl
theorem queueAt_nil (ar : List Int) (gr : List Bool) : queueAt ar gr 0 = [] := rfl
theorem goneAt_nil (ar : List Int) (gr : List Bool) : goneAt ar gr 0 = [] := rfl
end Go.Proofs.Ytlafbfphegmbaaa
