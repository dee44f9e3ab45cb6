/-
  Lamps, in plain Lean.
-/
import Derived.Test.YtcgcjjpkcaljgaaLs
namespace Go.Proofs.Ytcgcjjpkcaljgaa
set_option linter.unusedVariables false

def gu (l : List UInt8) (k : Nat) : UInt8 := l.getD k 0
theorem gu_at {l : List UInt8} {k : Nat} (h : k < l.length) : l[k] = gu l k := by simp [gu, h]
def gb (l : List Bool) (k : Nat) : Bool := l.getD k false
theorem gb_at {l : List Bool} {k : Nat} (h : k < l.length) : l[k] = gb l k := by simp [gb, h]
theorem gb_out {l : List Bool} {k : Nat} (h : l.length ≤ k) : gb l k = false := by simp [gb, h]
def mapN {α : Type} (n : Nat) (f : Nat → α) : List α := (List.range n).map f
theorem mapN_length {α : Type} (n : Nat) (f : Nat → α) : (mapN n f).length = n := by simp [mapN]
theorem mapN_get {α : Type} (n : Nat) (f : Nat → α) (k : Nat) (h : k < (mapN n f).length) : (mapN n f)[k] = f k := by simp [mapN]
theorem mapN_succ {α : Type} (n : Nat) (f : Nat → α) : mapN (n + 1) f = mapN n f ++ [f n] := by simp [mapN, List.range_succ]
theorem mapN_congr {α : Type} {n : Nat} {f g : Nat → α} (h : ∀ i, i < n → f i = g i) : mapN n f = mapN n g := by
  apply List.ext_getElem
  · rw [mapN_length, mapN_length]
  · intro i h1 h2
    rw [mapN_get, mapN_get, h i (by rwa [mapN_length] at h1)]
theorem gu_mapN {n : Nat} {f : Nat → UInt8} {k : Nat} (h : k < n) : gu (mapN n f) k = f k := by
  rw [← gu_at (by rwa [mapN_length]), mapN_get]
theorem mapN_gb (l : List Bool) : mapN l.length (gb l) = l := by
  apply List.ext_getElem
  · rw [mapN_length]
  · intro i h1 h2
    rw [mapN_get, gb_at h2]

/-- R 82, A 65, G 71, Y 89. -/
def isL (b : UInt8) : Bool := b == 82 || b == 65 || b == 71 || b == 89
def lettersN (l : List UInt8) (n : Nat) : Bool := (List.range n).all fun i => isL (gu l i)
def validL (l : List UInt8) : Bool := lettersN l l.length && decide (l.length ≤ 200)
theorem lettersN_iff {l : List UInt8} {n : Nat} : lettersN l n = true ↔ ∀ i, i < n → isL (gu l i) = true := by simp [lettersN]
theorem lettersN_succ (l : List UInt8) (n : Nat) : lettersN l (n + 1) = (lettersN l n && isL (gu l n)) := by simp [lettersN, List.range_succ]
theorem letters_no {l : List UInt8} {n : Nat} (h : n < l.length) (hb : isL (gu l n) = false) : validL l = false := by
  cases hv : validL l with
  | false => rfl
  | true =>
    simp only [validL, Bool.and_eq_true] at hv
    rw [lettersN_iff.mp hv.1 n h] at hb
    cases hb
theorem validL_iff {l : List UInt8} : validL l = true ↔ (∀ i, i < l.length → isL (gu l i) = true) ∧ l.length ≤ 200 := by
  simp only [validL, Bool.and_eq_true, decide_eq_true_eq, lettersN_iff]
/-- What may follow. -/
def folB (a b : UInt8) : Bool := if a == 82 then !(b == 89) else if a == 65 then b == 71 else if a == 71 then (b == 71 || b == 89) else true
def fstN (p : Nat → Bool) : Nat → Int
  | 0 => -1
  | n + 1 => if fstN p n = -1 then (if p n then (n : Int) else -1) else fstN p n
theorem fstN_bd (p : Nat → Bool) (n : Nat) : -1 ≤ fstN p n ∧ fstN p n < (n : Int) := by
  induction n with
  | zero => simp [fstN]
  | succ n ih =>
    rw [fstN]
    split
    · split <;> omega
    · omega
theorem fstN_none {p : Nat → Bool} {n : Nat} : fstN p n = -1 ↔ ∀ k, k < n → p k = false := by
  induction n with
  | zero => simp [fstN]
  | succ n ih =>
    rw [fstN]
    constructor
    · intro h k hk
      split at h
      · rename_i h1
        split at h
        · omega
        · rename_i h2
          by_cases e : k = n
          · subst e; simpa using h2
          · exact ih.mp h1 k (by omega)
      · rename_i h1; exact absurd h h1
    · intro h
      rw [if_pos (ih.mpr fun k hk => h k (by omega)), if_neg (by rw [h n (by omega)]; decide)]
theorem fstN_at {p : Nat → Bool} {n k : Nat} (hk : k < n) (hp : p k = true) (hn : ∀ i, i < k → p i = false) : fstN p n = k := by
  induction n with
  | zero => omega
  | succ n ih =>
    rw [fstN]
    by_cases e : k = n
    · subst e
      rw [if_pos (fstN_none.mpr hn), if_pos hp]
    · rw [ih (by omega), if_neg (by omega)]
theorem fstN_spec {p : Nat → Bool} {n : Nat} {k : Nat} (h : fstN p n = k) : k < n ∧ p k = true ∧ ∀ i, i < k → p i = false := by
  induction n with
  | zero => simp [fstN] at h
  | succ n ih =>
    rw [fstN] at h
    split at h
    · rename_i h1
      split at h
      · rename_i h2
        obtain rfl : n = k := by omega
        exact ⟨by omega, h2, fun i hi => fstN_none.mp h1 i hi⟩
      · omega
    · obtain ⟨h1, h2, h3⟩ := ih h
      exact ⟨by omega, h2, h3⟩
/-- The lamp at k must not follow the one before it. -/
def badL (l : List UInt8) (k : Nat) : Bool := decide (1 ≤ k) && !folB (gu l (k - 1)) (gu l k)
def fblF (l : List UInt8) : Int := if validL l then fstN (badL l) l.length else -2
def greensF (l : List UInt8) : List Bool := if validL l then mapN l.length fun i => gu l i == 71 else []
theorem fblF_bd (l : List UInt8) : -2 ≤ fblF l ∧ fblF l < (l.length : Int) := by
  unfold fblF
  split
  · have := fstN_bd (badL l) l.length; omega
  · omega
theorem fblF_no {l : List UInt8} (h : validL l = false) : fblF l = -2 := by simp [fblF, h]
theorem fblF_none {l : List UInt8} (hv : validL l = true) (h : ∀ k, 1 ≤ k → k < l.length → folB (gu l (k - 1)) (gu l k) = true) : fblF l = -1 := by
  rw [fblF, if_pos hv]
  refine fstN_none.mpr fun k hk => ?_
  unfold badL
  by_cases h1 : 1 ≤ k
  · rw [h k h1 hk]; simp
  · simp [h1]
theorem fblF_at {l : List UInt8} (hv : validL l = true) {k : Nat} (h1 : 1 ≤ k) (hk : k < l.length) (hb : folB (gu l (k - 1)) (gu l k) = false) (h : ∀ i, 1 ≤ i → i < k → folB (gu l (i - 1)) (gu l i) = true) : fblF l = k := by
  rw [fblF, if_pos hv]
  refine fstN_at hk (by unfold badL; rw [hb]; simp [h1]) fun i hi => ?_
  unfold badL
  by_cases h2 : 1 ≤ i
  · rw [h i h2 hi]; simp
  · simp [h2]
theorem gu_take {l : List UInt8} {n k : Nat} (h : k < n) : gu (l.take n) k = gu l k := by simp [gu, h]
theorem valid_take {l : List UInt8} (hv : validL l = true) (n : Nat) : validL (l.take n) = true := by
  obtain ⟨h1, h2⟩ := validL_iff.mp hv
  refine validL_iff.mpr ⟨fun i hi => ?_, by simp; omega⟩
  simp only [List.length_take] at hi
  rw [gu_take (by omega)]
  exact h1 i (by omega)
/-- Beginnings of good texts are good. -/
theorem fbl_take {l : List UInt8} {n : Nat} (hf : fblF l = n) : fblF (l.take n) = -1 ∧ fblF (l.take (n + 1)) = n ∧ 1 ≤ n ∧ n < l.length ∧ validL l = true := by
  have hv : validL l = true := by
    cases hv : validL l with
    | true => rfl
    | false => rw [fblF_no hv] at hf; omega
  rw [fblF, if_pos hv] at hf
  obtain ⟨h1, h2, h3⟩ := fstN_spec hf
  simp only [badL, Bool.and_eq_true, decide_eq_true_eq, Bool.not_eq_true'] at h2
  have hn : ∀ i, 1 ≤ i → i < n → folB (gu l (i - 1)) (gu l i) = true := fun i hi hin => by
    have := h3 i hin
    simpa [badL, hi] using this
  refine ⟨fblF_none (valid_take hv n) fun k hk hkl => ?_, fblF_at (valid_take hv _) h2.1 (by simp; omega) ?_ fun i hi hin => ?_, h2.1, h1, hv⟩
  · simp only [List.length_take] at hkl
    rw [gu_take (by omega), gu_take (by omega)]
    exact hn k hk (by omega)
  · rw [gu_take (by omega), gu_take (by omega)]
    exact h2.2
  · rw [gu_take (by omega), gu_take (by omega)]
    exact hn i hi hin

/-! ### the lamps of a signal -/
/-- How many seconds of yellow are left before second k. -/
def yel (gs : List Bool) : Nat → Nat
  | 0 => 0
  | k + 1 => if gb gs k then 3 else yel gs k - 1
theorem yel_bd (gs : List Bool) (k : Nat) : yel gs k ≤ 3 := by
  induction k with
  | zero => simp [yel]
  | succ k ih => rw [yel]; split <;> omega
def lampAt (gs : List Bool) (k : Nat) : UInt8 := if gb gs k then 71 else if 0 < yel gs k then 89 else if gb gs (k + 1) then 65 else 82
def lampN (gs : List Bool) (n : Nat) : List UInt8 := mapN n (lampAt gs)
def lampF (gs : List Bool) : List UInt8 := if gs.length ≤ 200 then lampN gs gs.length else []
theorem lampN_length (gs : List Bool) (n : Nat) : (lampN gs n).length = n := mapN_length _ _
theorem lampN_succ (gs : List Bool) (n : Nat) : lampN gs (n + 1) = lampN gs n ++ [lampAt gs n] := mapN_succ _ _
theorem lamp_isL (gs : List Bool) (k : Nat) : isL (lampAt gs k) = true := by
  unfold lampAt
  split
  · decide
  · split
    · decide
    · split <;> decide
theorem lamp_green (gs : List Bool) (k : Nat) : (lampAt gs k == 71) = gb gs k := by
  unfold lampAt
  split
  · rename_i h; rw [h]; decide
  · rename_i h
    rw [show gb gs k = false by simpa using h]
    split
    · decide
    · split <;> decide
theorem lamp_follow (gs : List Bool) (k : Nat) : folB (lampAt gs k) (lampAt gs (k + 1)) = true := by
  have hy : yel gs (k + 1) = if gb gs k = true then 3 else yel gs k - 1 := rfl
  unfold lampAt
  rw [hy]
  generalize gb gs k = x
  generalize gb gs (k + 1) = y
  generalize gb gs (k + 1 + 1) = z
  by_cases h3 : 0 < yel gs k
  · generalize yel gs k = m at *
    cases x <;> cases y <;> simp [h3, folB]
  · have h4 : yel gs k = 0 := by omega
    rw [h4]
    cases x <;> cases y <;> cases z <;> decide
theorem lampF_good {gs : List Bool} (hl : gs.length ≤ 200) : validL (lampF gs) = true ∧ (lampF gs).length = gs.length ∧ fblF (lampF gs) = -1 ∧ greensF (lampF gs) = gs := by
  have e : lampF gs = lampN gs gs.length := by simp [lampF, hl]
  rw [e]
  have hv : validL (lampN gs gs.length) = true := by
    refine validL_iff.mpr ⟨fun i hi => ?_, by rw [lampN_length]; exact hl⟩
    rw [lampN_length] at hi
    rw [lampN, gu_mapN hi]
    exact lamp_isL gs i
  refine ⟨hv, lampN_length _ _, fblF_none hv fun k h1 hk => ?_, ?_⟩
  · rw [lampN_length] at hk
    rw [lampN, gu_mapN (by omega), gu_mapN hk]
    have := lamp_follow gs (k - 1)
    rwa [show k - 1 + 1 = k by omega] at this
  · rw [greensF, if_pos hv, lampN_length]
    rw [mapN_congr (g := gb gs) fun i hi => by rw [lampN, gu_mapN hi, lamp_green]]
    exact mapN_gb gs
theorem lampF_nil {gs : List Bool} : lampF gs = [] ↔ gs.length = 0 ∨ 200 < gs.length := by
  unfold lampF
  split
  · constructor
    · intro h
      have := congrArg List.length h
      rw [lampN_length] at this
      exact .inl this
    · rintro (h | h)
      · rw [h]; rfl
      · omega
  · constructor
    · intro _; exact .inr (by omega)
    · intro _; rfl
end Go.Proofs.Ytcgcjjpkcaljgaa
