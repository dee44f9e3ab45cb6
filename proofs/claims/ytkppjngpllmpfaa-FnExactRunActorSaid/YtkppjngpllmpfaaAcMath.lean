/-
  A controller that is driven by cars: one second of it, in plain Lean.
-/
import Derived.Test.YtkppjngpllmpfaaLs
namespace Go.Proofs.Ytkppjngpllmpfaa
set_option linter.unusedVariables false

/-- A controller. -/
structure Ctl where
  st : Int
  now : Int
  pa : Int
  qu : Int
  le : Int
  wa : List Bool

def gb (l : List Bool) (i : Nat) : Bool := l.getD i false
theorem gb_at {l : List Bool} {k : Nat} (h : k < l.length) : l[k] = gb l k := by simp [gb, h]
theorem gb_out {l : List Bool} {k : Nat} (h : l.length ≤ k) : gb l k = false := by simp [gb, h]
def orL (a b : List Bool) : List Bool := List.zipWith (fun x y => x || y) a b
theorem orL_length {a b : List Bool} (h : a.length = b.length) : (orL a b).length = a.length := by simp [orL]; omega
theorem gb_or {a b : List Bool} (h : a.length = b.length) (i : Nat) : gb (orL a b) i = (gb a i || gb b i) := by
  by_cases hi : i < a.length
  · rw [← gb_at (by rw [orL_length h]; exact hi), ← gb_at hi, ← gb_at (by omega)]
    simp [orL]
  · rw [gb_out (by rw [orL_length h]; omega), gb_out (by omega), gb_out (by omega)]
    rfl
theorem gb_set (l : List Bool) (j i : Nat) : gb (l.set j false) i = (decide (i ≠ j) && gb l i) := by
  by_cases hi : i < l.length
  · rw [← gb_at (by rw [List.length_set]; exact hi), ← gb_at hi, List.getElem_set]
    by_cases e : j = i
    · subst e; simp
    · simp [e, Ne.symm e]
  · rw [gb_out (by rw [List.length_set]; omega), gb_out (by omega)]
    simp
theorem gb_ext {a b : List Bool} (h : a.length = b.length) (he : ∀ i, i < a.length → gb a i = gb b i) : a = b :=
  List.ext_getElem h fun i h1 h2 => by rw [gb_at h1, gb_at h2]; exact he i h1
theorem gb_replicate (n i : Nat) (b : Bool) : gb (List.replicate n b) i = (decide (i < n) && b) := by
  by_cases hi : i < n
  · rw [← gb_at (by simpa using hi)]; simp [hi]
  · rw [gb_out (by simpa using hi)]; simp [hi]

/-- The next wanted stage among the k that follow. -/
def nextI (wa : List Bool) (now : Nat) : Nat → Int
  | 0 => -1
  | k + 1 => if nextI wa now k = -1 then (if gb wa ((now + (k + 1)) % wa.length) = true then (((now + (k + 1)) % wa.length : Nat) : Int) else -1) else nextI wa now k
theorem nextI_no {wa : List Bool} {now k : Nat} : nextI wa now k = -1 ↔ ∀ i, 1 ≤ i → i ≤ k → gb wa ((now + i) % wa.length) = false := by
  induction k with
  | zero => exact ⟨fun _ i h1 h2 => by omega, fun _ => rfl⟩
  | succ k ih =>
    rw [nextI]
    constructor
    · intro h i h1 h2
      split at h
      · rename_i hk
        split at h
        · omega
        · rename_i hg
          by_cases e : i = k + 1
          · subst e; simpa using hg
          · exact ih.mp hk i h1 (by omega)
      · rename_i hk
        exact absurd h hk
    · intro h
      have hk := ih.mpr fun i h1 h2 => h i h1 (by omega)
      rw [if_pos hk, h (k + 1) (by omega) (Nat.le_refl _)]
      rfl
theorem nextI_yes {wa : List Bool} {now k : Nat} (h : nextI wa now k ≠ -1) : ∃ i, 1 ≤ i ∧ i ≤ k ∧ nextI wa now k = (((now + i) % wa.length : Nat) : Int) ∧ gb wa ((now + i) % wa.length) = true ∧ ∀ j, 1 ≤ j → j < i → gb wa ((now + j) % wa.length) = false := by
  induction k with
  | zero => exact absurd rfl h
  | succ k ih =>
    by_cases hk : nextI wa now k = -1
    · have hn := nextI_no.mp hk
      rw [nextI, if_pos hk] at h ⊢
      split at h
      · rename_i hg
        rw [if_pos hg]
        exact ⟨k + 1, by omega, Nat.le_refl _, rfl, hg, fun j h1 h2 => hn j h1 (by omega)⟩
      · exact absurd rfl h
    · obtain ⟨i, h1, h2, h3, h4, h5⟩ := ih hk
      rw [nextI, if_neg hk]
      exact ⟨i, h1, by omega, h3, h4, h5⟩
theorem nextI_bd {wa : List Bool} {now k : Nat} (hn : 0 < wa.length) : -1 ≤ nextI wa now k ∧ nextI wa now k < wa.length := by
  by_cases h : nextI wa now k = -1
  · omega
  · obtain ⟨i, h1, h2, h3, h4, h5⟩ := nextI_yes h
    have := Nat.mod_lt (now + i) hn
    rw [h3]; omega
theorem turn_ne {n now i : Nat} (hnow : now < n) (h1 : 1 ≤ i) (h2 : i < n) : (now + i) % n ≠ now := by
  by_cases h : now + i < n
  · rw [Nat.mod_eq_of_lt h]; omega
  · rw [Nat.mod_eq_sub_mod (by omega), Nat.mod_eq_of_lt (by omega)]; omega
theorem turn_to {n now i : Nat} (hnow : now < n) (hi : i < n) (hne : i ≠ now) : ∃ j, 1 ≤ j ∧ j < n ∧ (now + j) % n = i := by
  by_cases h : now < i
  · exact ⟨i - now, by omega, by omega, by rw [show now + (i - now) = i by omega]; exact Nat.mod_eq_of_lt hi⟩
  · exact ⟨i + n - now, by omega, by omega, by rw [show now + (i + n - now) = i + n by omega, Nat.add_mod_right]; exact Nat.mod_eq_of_lt hi⟩

/-! ### validity -/
def validA (a : Ctl) : Bool := inB a.st 1 5 && inB a.now 0 (a.st - 1) && inB a.pa 0 40 && inB a.qu 0 a.pa && inB a.le 0 5 && decide ((a.wa.length : Int) = a.st)
structure Good (a : Ctl) : Prop where
  st : 1 ≤ a.st ∧ a.st ≤ 5
  now : 0 ≤ a.now ∧ a.now < a.st
  pa : 0 ≤ a.pa ∧ a.pa ≤ 40
  qu : 0 ≤ a.qu ∧ a.qu ≤ a.pa
  le : 0 ≤ a.le ∧ a.le ≤ 5
  wa : (a.wa.length : Int) = a.st
theorem validA_iff {a : Ctl} : validA a = true ↔ Good a := by
  constructor
  · intro h
    simp only [validA, inB, Bool.and_eq_true, decide_eq_true_eq] at h
    exact ⟨by omega, by omega, by omega, by omega, by omega, by omega⟩
  · rintro ⟨h1, h2, h3, h4, h5, h6⟩
    simp only [validA, inB, Bool.and_eq_true, decide_eq_true_eq]
    omega

/-! ### one second -/
def quF (a : Ctl) (cars : List Bool) : Int := if gb cars a.now.toNat = true then 0 else a.qu + 1
def waF (a : Ctl) (cars : List Bool) : List Bool := (orL a.wa cars).set a.now.toNat false
def nxF (a : Ctl) (cars : List Bool) : Int := nextI (waF a cars) a.now.toNat (a.wa.length - 1)
def goF (a : Ctl) (cars : List Bool) : Bool := decide (0 ≤ nxF a cars) && decide (5 ≤ a.pa + 1) && (decide (3 ≤ quF a cars) || decide (40 ≤ a.pa + 1))
def stepF (a : Ctl) (cars : List Bool) : Ctl :=
  if 0 < a.le then ⟨a.st, a.now, 0, 0, a.le - 1, orL a.wa cars⟩
  else if goF a cars = true then ⟨a.st, nxF a cars, 0, 0, 4, waF a cars⟩
  else ⟨a.st, a.now, min (a.pa + 1) 40, min (quF a cars) (min (a.pa + 1) 40), 0, waF a cars⟩

section
variable {a : Ctl} {cars : List Bool}
theorem stepF_left (h : 0 < a.le) : stepF a cars = ⟨a.st, a.now, 0, 0, a.le - 1, orL a.wa cars⟩ := if_pos h
theorem stepF_go (h : ¬ 0 < a.le) (hg : goF a cars = true) : stepF a cars = ⟨a.st, nxF a cars, 0, 0, 4, waF a cars⟩ := by rw [stepF, if_neg h, if_pos hg]
theorem stepF_stay (h : ¬ 0 < a.le) (hg : goF a cars = false) : stepF a cars = ⟨a.st, a.now, min (a.pa + 1) 40, min (quF a cars) (min (a.pa + 1) 40), 0, waF a cars⟩ := by
  rw [stepF, if_neg h, if_neg (by rw [hg]; decide)]
theorem goF_iff : goF a cars = true ↔ 0 ≤ nxF a cars ∧ 5 ≤ a.pa + 1 ∧ (3 ≤ quF a cars ∨ 40 ≤ a.pa + 1) := by
  simp only [goF, Bool.and_eq_true, Bool.or_eq_true, decide_eq_true_eq]
  omega
theorem goF_no : goF a cars = false ↔ ¬ (0 ≤ nxF a cars ∧ 5 ≤ a.pa + 1 ∧ (3 ≤ quF a cars ∨ 40 ≤ a.pa + 1)) := by
  rw [← goF_iff]; simp
theorem waF_length (h : a.wa.length = cars.length) : (waF a cars).length = a.wa.length := by rw [waF, List.length_set, orL_length h]
theorem gb_waF (h : a.wa.length = cars.length) (i : Nat) : gb (waF a cars) i = (decide (i ≠ a.now.toNat) && (gb a.wa i || gb cars i)) := by rw [waF, gb_set, gb_or h]
theorem quF_bd (hg : Good a) : 0 ≤ quF a cars ∧ quF a cars ≤ a.qu + 1 := by
  have := hg.qu
  unfold quF
  split <;> omega
theorem nxF_bd (hg : Good a) (h : a.wa.length = cars.length) : -1 ≤ nxF a cars ∧ nxF a cars < a.st := by
  have h1 := hg.wa
  have h2 := hg.st
  have h3 := nextI_bd (wa := waF a cars) (now := a.now.toNat) (k := a.wa.length - 1) (by rw [waF_length h]; omega)
  rw [waF_length h] at h3
  unfold nxF
  omega
theorem step_good (hg : Good a) (h : a.wa.length = cars.length) : Good (stepF a cars) := by
  have h1 := quF_bd (cars := cars) hg
  have h2 := nxF_bd hg h
  obtain ⟨g1, g2, g3, g4, g5, g6⟩ := hg
  by_cases hl : 0 < a.le
  · rw [stepF_left hl]
    exact ⟨g1, g2, by simp, by simp, by simp only; omega, by simp only [orL_length h]; exact g6⟩
  · cases hgo : goF a cars with
    | true =>
      rw [stepF_go hl hgo]
      have := goF_iff.mp hgo
      exact ⟨g1, by simp only; omega, by simp, by simp, by simp, by simp only [waF_length h]; exact g6⟩
    | false =>
      rw [stepF_stay hl hgo]
      exact ⟨g1, g2, by simp only; omega, by simp only; omega, by simp, by simp only [waF_length h]; exact g6⟩
theorem step_st : (stepF a cars).st = a.st := by
  unfold stepF
  split
  · rfl
  · split <;> rfl
theorem step_wa (hg : Good a) (h : a.wa.length = cars.length) : (stepF a cars).wa.length = a.wa.length := by
  have h1 := (step_good hg h).wa
  have h2 := hg.wa
  rw [step_st] at h1
  omega
end

/-! ### lists that are made -/
def mapN {α : Type} (n : Nat) (f : Nat → α) : List α := (List.range n).map f
theorem mapN_length {α : Type} (n : Nat) (f : Nat → α) : (mapN n f).length = n := by simp [mapN]
theorem mapN_get {α : Type} (n : Nat) (f : Nat → α) (k : Nat) (h : k < (mapN n f).length) : (mapN n f)[k] = f k := by simp [mapN]
theorem mapN_congr {α : Type} {n : Nat} {f g : Nat → α} (h : ∀ i, i < n → f i = g i) : mapN n f = mapN n g := by
  refine List.ext_getElem (by simp [mapN]) fun i h1 h2 => ?_
  rw [mapN_get, mapN_get]
  exact h i (by rwa [mapN_length] at h1)
theorem mapN_set {α : Type} (n : Nat) (f : Nat → α) (k : Nat) (v : α) : (mapN n f).set k v = mapN n fun i => if i = k then v else f i := by
  refine List.ext_getElem (by simp [mapN]) fun i h1 h2 => ?_
  rw [List.getElem_set, mapN_get, mapN_get]
  by_cases e : k = i
  · simp [e]
  · simp [e, Ne.symm e]
/-- The wishes behind the cars of the first k stages. -/
def orK (wa cars : List Bool) (k : Nat) : List Bool := mapN wa.length fun i => gb wa i || (decide (i < k) && gb cars i)
theorem orK_length (wa cars : List Bool) (k : Nat) : (orK wa cars k).length = wa.length := mapN_length _ _
theorem orK_zero (wa cars : List Bool) : orK wa cars 0 = wa := by
  refine List.ext_getElem (orK_length _ _ _) fun i h1 h2 => ?_
  simp only [orK, mapN_get]
  simp [gb, h2]
theorem orK_all {wa cars : List Bool} (h : wa.length = cars.length) : orK wa cars wa.length = orL wa cars := by
  refine gb_ext ((orK_length _ _ _).trans (orL_length h).symm) fun i hi => ?_
  rw [gb_or h, ← gb_at hi]
  simp only [orK, mapN_get]
  rw [orK_length] at hi
  simp [hi]
theorem orK_get {wa cars : List Bool} {k : Nat} (hk : k < wa.length) (h : k < (orK wa cars k).length) : (orK wa cars k)[k] = gb wa k := by simp [orK, mapN_get]
theorem orK_yes {wa cars : List Bool} {k : Nat} (hc : gb cars k = true) : (orK wa cars k).set k true = orK wa cars (k + 1) := by
  rw [orK, mapN_set]
  refine mapN_congr fun i hi => ?_
  by_cases e : i = k
  · subst e; simp [hc]
  · rw [if_neg e, show decide (i < k) = decide (i < k + 1) by simp; omega]
theorem orK_no {wa cars : List Bool} {k : Nat} (hc : gb cars k = false) : orK wa cars (k + 1) = orK wa cars k := by
  refine mapN_congr fun i hi => ?_
  by_cases e : i = k
  · subst e; simp [hc]
  · rw [show decide (i < k) = decide (i < k + 1) by simp; omega]
theorem orK_set {wa cars : List Bool} {k : Nat} : (orK wa cars k).set k (gb wa k || gb cars k) = orK wa cars (k + 1) := by
  rw [orK, mapN_set]
  refine mapN_congr fun i hi => ?_
  by_cases e : i = k
  · subst e; simp
  · rw [if_neg e, show decide (i < k) = decide (i < k + 1) by simp; omega]

theorem nextI_step {wa : List Bool} {now j : Nat} (h1 : 1 ≤ j) (h : nextI wa now (j - 1) = -1) : nextI wa now j = if gb wa ((now + j) % wa.length) = true then (((now + j) % wa.length : Nat) : Int) else -1 := by
  obtain ⟨k, rfl⟩ : ∃ k, j = k + 1 := ⟨j - 1, by omega⟩
  rw [nextI, if_pos (by simpa using h)]
theorem nextI_stop {wa : List Bool} {now j k : Nat} (h : nextI wa now j ≠ -1) (hjk : j ≤ k) : nextI wa now k = nextI wa now j := by
  induction k with
  | zero => rw [show j = 0 by omega]
  | succ k ih =>
    by_cases e : j = k + 1
    · rw [e]
    · have := ih (by omega)
      rw [nextI, if_neg (by rw [this]; exact h), this]
/-- A valid controller has this form. -/
theorem Good.form {a : Ctl} (hg : Good a) : ∃ (now : Nat) (pa qu le : Int) (wa : List Bool), a = ⟨(wa.length : Int), (now : Int), pa, qu, le, wa⟩ ∧ 1 ≤ wa.length ∧ wa.length ≤ 5 ∧ now < wa.length ∧ 0 ≤ pa ∧ pa ≤ 40 ∧ 0 ≤ qu ∧ qu ≤ pa ∧ 0 ≤ le ∧ le ≤ 5 := by
  obtain ⟨st, now, pa, qu, le, wa⟩ := a
  obtain ⟨g1, g2, g3, g4, g5, g6⟩ := hg
  simp only at g1 g2 g3 g4 g5 g6
  refine ⟨now.toNat, pa, qu, le, wa, ?_, by omega, by omega, by omega, by omega, by omega, by omega, by omega, by omega, by omega⟩
  rw [g6, Int.toNat_of_nonneg g2.1]
end Go.Proofs.Ytkppjngpllmpfaa
