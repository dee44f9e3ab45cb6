/-
  What a controller that is driven by cars does: the plain laws.
-/
import Derived.Test.YtkppjngpllmpfaaAcMath
namespace Go.Proofs.Ytkppjngpllmpfaa
set_option linter.unusedVariables false

/-- As many seconds with the same cars. -/
def iterS (a : Ctl) (cars : List Bool) : Nat → Ctl
  | 0 => a
  | k + 1 => stepF (iterS a cars k) cars
theorem iterS_good {a : Ctl} {cars : List Bool} (hg : Good a) (h : a.wa.length = cars.length) (k : Nat) : Good (iterS a cars k) ∧ (iterS a cars k).wa.length = cars.length ∧ (iterS a cars k).st = a.st := by
  induction k with
  | zero => exact ⟨hg, h, rfl⟩
  | succ k ih => exact ⟨step_good ih.1 ih.2.1, (step_wa ih.1 ih.2.1).trans ih.2.1, step_st.trans ih.2.2⟩

def noneL (n : Nat) : List Bool := List.replicate n false
def allL (n : Nat) : List Bool := List.replicate n true
theorem gb_none (n i : Nat) : gb (noneL n) i = false := by simp [noneL, gb_replicate]
theorem gb_all {n i : Nat} (h : i < n) : gb (allL n) i = true := by simp [allL, gb_replicate, h]

/-! ### no wishes -/
theorem orL_none (n : Nat) : orL (noneL n) (noneL n) = noneL n := by simp [orL, noneL]
theorem waF_none {a : Ctl} (h : a.wa = noneL a.wa.length) : waF a (noneL a.wa.length) = noneL a.wa.length := by
  refine gb_ext (by rw [waF_length (by simp [noneL])]; simp [noneL]) fun i hi => ?_
  rw [gb_waF (by simp [noneL]), gb_none]
  have h2 : gb a.wa i = false := by rw [h, gb_none]
  simp [h2]
theorem nxF_none {a : Ctl} (h : a.wa = noneL a.wa.length) : nxF a (noneL a.wa.length) = -1 := by
  rw [nxF, waF_none h]
  exact nextI_no.mpr fun i _ _ => gb_none _ _
theorem calm_step {a : Ctl} (hg : Good a) (h : a.wa = noneL a.wa.length) :
    (stepF a (noneL a.wa.length)).now = a.now ∧ (stepF a (noneL a.wa.length)).wa = a.wa ∧ (stepF a (noneL a.wa.length)).le = (if 0 < a.le then a.le - 1 else 0) := by
  by_cases hl : 0 < a.le
  · rw [stepF_left hl, if_pos hl]
    refine ⟨rfl, ?_, rfl⟩
    show orL a.wa (noneL a.wa.length) = a.wa
    rw [h, show (noneL a.wa.length).length = a.wa.length from List.length_replicate]
    exact orL_none _
  · have hn : goF a (noneL a.wa.length) = false := goF_no.mpr fun hgo => by rw [nxF_none h] at hgo; omega
    rw [stepF_stay hl hn, if_neg hl]
    exact ⟨rfl, (waF_none h).trans h.symm, rfl⟩
theorem calm {a : Ctl} (hg : Good a) (h : a.wa = noneL a.wa.length) (k : Nat) :
    (iterS a (noneL a.wa.length) k).now = a.now ∧ (iterS a (noneL a.wa.length) k).wa = a.wa ∧ (iterS a (noneL a.wa.length) k).le = (if (k : Int) < a.le then a.le - k else 0) := by
  induction k with
  | zero =>
    refine ⟨rfl, rfl, ?_⟩
    have := hg.le
    show a.le = _
    split <;> omega
  | succ k ih =>
    obtain ⟨h1, h2, h3⟩ := ih
    have hg' := (iterS_good (cars := noneL a.wa.length) hg (by simp [noneL]) k).1
    have := calm_step hg' (by rw [h2]; exact h)
    rw [h2] at this
    obtain ⟨h4, h5, h6⟩ := this
    have hle := hg.le
    refine ⟨h4.trans h1, h5, ?_⟩
    show (stepF _ _).le = _
    rw [h6, h3]
    split <;> split <;> split <;> omega

/-! ### one second -/
theorem green_law {a : Ctl} {cars : List Bool} (hg : Good a) (h : a.wa.length = cars.length) (hne : (stepF a cars).now ≠ a.now) :
    a.le = 0 ∧ 5 ≤ a.pa + 1 ∧ (gb a.wa (stepF a cars).now.toNat || gb cars (stepF a cars).now.toNat) = true ∧ (stepF a cars).le = 4 := by
  have hle := hg.le
  by_cases hl : 0 < a.le
  · rw [stepF_left hl] at hne; exact absurd rfl hne
  · cases hgo : goF a cars with
    | false => rw [stepF_stay hl hgo] at hne; exact absurd rfl hne
    | true =>
      rw [stepF_go hl hgo]
      have h1 := goF_iff.mp hgo
      obtain ⟨i, h2, h3, h4, h5, h6⟩ := nextI_yes (show nextI (waF a cars) a.now.toNat (a.wa.length - 1) ≠ -1 by
        have := h1.1
        unfold nxF at this
        omega)
      have e : (nxF a cars).toNat = (a.now.toNat + i) % (waF a cars).length := by rw [nxF, h4, Int.toNat_natCast]
      refine ⟨by omega, h1.2.1, ?_, rfl⟩
      simp only [e]
      rw [gb_waF h] at h5
      simp only [Bool.and_eq_true] at h5
      exact h5.2
/-- Somebody else is wanted: there is a next stage. -/
theorem nx_some {a : Ctl} {cars : List Bool} (hg : Good a) (h : a.wa.length = cars.length) {i : Nat} (hi : i < a.wa.length) (hne : (i : Int) ≠ a.now) (hw : (gb a.wa i || gb cars i) = true) : 0 ≤ nxF a cars ∧ nxF a cars ≠ a.now := by
  have h1 := hg.now
  have h2 := hg.wa
  have hno : nextI (waF a cars) a.now.toNat (a.wa.length - 1) ≠ -1 := by
    intro hn
    obtain ⟨j, h3, h4, h5⟩ := turn_to (n := a.wa.length) (now := a.now.toNat) (i := i) (by omega) hi (by omega)
    have := nextI_no.mp hn j h3 (by omega)
    rw [waF_length h, h5, gb_waF h, hw] at this
    simp at this
    omega
  obtain ⟨j, h3, h4, h5, _, _⟩ := nextI_yes hno
  have h6 := turn_ne (n := a.wa.length) (now := a.now.toNat) (i := j) (by omega) h3 (by omega)
  rw [waF_length h] at h5
  unfold nxF
  rw [h5]
  omega
theorem nx_none {a : Ctl} {cars : List Bool} (hg : Good a) (h : a.wa.length = cars.length) (hw : ∀ i, i < a.wa.length → (i : Int) ≠ a.now → (gb a.wa i || gb cars i) = false) : nxF a cars = -1 := by
  have h1 := hg.now
  have h2 := hg.wa
  refine nextI_no.mpr fun j h3 h4 => ?_
  have h6 := turn_ne (n := a.wa.length) (now := a.now.toNat) (i := j) (by omega) h3 (by omega)
  rw [waF_length h, gb_waF h, hw _ (Nat.mod_lt _ (by omega)) (by omega)]
  simp
theorem most_yes {a : Ctl} {cars : List Bool} (hg : Good a) (h : a.wa.length = cars.length) (hl : ¬ 0 < a.le) (hp : ¬ a.pa + 1 < 40) {i : Nat} (hi : i < a.wa.length) (hne : (i : Int) ≠ a.now) (hw : (gb a.wa i || gb cars i) = true) : (stepF a cars).now ≠ a.now := by
  obtain ⟨h1, h2⟩ := nx_some hg h hi hne hw
  rw [stepF_go hl (goF_iff.mpr ⟨h1, by omega, .inr (by omega)⟩)]
  exact h2
theorem most_no {a : Ctl} {cars : List Bool} (hg : Good a) (h : a.wa.length = cars.length) (hl : ¬ 0 < a.le) (hw : ∀ i, i < a.wa.length → (i : Int) ≠ a.now → (gb a.wa i || gb cars i) = false) : (stepF a cars).now = a.now := by
  rw [stepF_stay hl (goF_no.mpr fun hgo => by rw [nx_none hg h hw] at hgo; omega)]
theorem wanted_law {a : Ctl} {cars : List Bool} (hg : Good a) (h : a.wa.length = cars.length) {i : Nat} (hw : (gb a.wa i || gb cars i) = true) (hb : gb (stepF a cars).wa i = false) : (i : Int) = a.now ∧ ¬ 0 < a.le := by
  have h1 := hg.now
  by_cases hl : 0 < a.le
  · rw [stepF_left hl] at hb
    simp only [gb_or h] at hb
    rw [hw] at hb
    cases hb
  · have e : (stepF a cars).wa = waF a cars := by
      cases hgo : goF a cars with
      | true => rw [stepF_go hl hgo]
      | false => rw [stepF_stay hl hgo]
    rw [e, gb_waF h, hw] at hb
    simp at hb
    exact ⟨by omega, hl⟩

/-! ### a single wish -/
/-- Only stage g is wanted. -/
def Only (a : Ctl) (g : Nat) : Prop := ∀ i, i < a.wa.length → gb a.wa i = decide (i = g)
/-- The seconds until g has become Now, at most. -/
def due (a : Ctl) : Int := if 0 < a.le then 5 + a.le else max (5 - a.pa) (3 - a.qu)
theorem one_step {a : Ctl} {g : Nat} (hg : Good a) (hgl : g < a.wa.length) (hne : a.now ≠ g) (ho : Only a g) :
    let b := stepF a (noneL a.wa.length)
    b.now = g ∨ (b.now = a.now ∧ Only b g ∧ due b ≤ due a - 1 ∧ 1 ≤ due b) := by
  intro b
  have hl : a.wa.length = (noneL a.wa.length).length := by simp [noneL]
  have hgw : gb a.wa g = true := by rw [ho g hgl]; simp
  have h0 := hg.le
  have h1 := hg.now
  have h2 := hg.qu
  have h3 := hg.pa
  have h4 := hg.wa
  by_cases hle : 0 < a.le
  · right
    have e : b = _ := stepF_left hle
    rw [e]
    refine ⟨rfl, fun i hi => ?_, ?_, ?_⟩
    · simp only [gb_or hl, gb_none, Bool.or_false]
      simp only [orL_length hl] at hi
      exact ho i hi
    · simp only [due, if_pos hle]; split <;> omega
    · simp only [due]; split <;> omega
  · have hq : quF a (noneL a.wa.length) = a.qu + 1 := by rw [quF, gb_none]; simp
    have hnx : nxF a (noneL a.wa.length) = g := by
      obtain ⟨hx, _⟩ := nx_some hg hl hgl (fun e => hne e.symm) (by rw [hgw]; rfl)
      obtain ⟨j, h5, h6, h7, h8, _⟩ := nextI_yes (show nextI (waF a (noneL a.wa.length)) a.now.toNat (a.wa.length - 1) ≠ -1 by unfold nxF at hx; omega)
      rw [waF_length hl] at h7 h8
      rw [gb_waF hl, gb_none, Bool.or_false, ho _ (Nat.mod_lt _ (by omega))] at h8
      simp at h8
      unfold nxF
      rw [h7, h8.2]
    cases hgo : goF a (noneL a.wa.length) with
    | true =>
      left
      have e : b = _ := stepF_go hle hgo
      rw [e]
      exact hnx
    | false =>
      right
      have e : b = _ := stepF_stay hle hgo
      have hno := goF_no.mp hgo
      rw [hnx, hq] at hno
      rw [e]
      refine ⟨rfl, fun i hi => ?_, ?_, ?_⟩
      · simp only [gb_waF hl, gb_none, Bool.or_false]
        simp only [waF_length hl] at hi
        rw [ho i hi]
        by_cases e : i = g
        · simp [e]; omega
        · simp [e]
      · simp only [due, if_neg hle, hq]; simp; omega
      · simp only [due, hq]; simp; omega
theorem one_due {a : Ctl} {g : Nat} (hg : Good a) (hgl : g < a.wa.length) (hne : a.now ≠ g) (ho : Only a g) (hd : 1 ≤ due a ∨ True) : due a ≤ 10 ∧ 0 ≤ due a + 100 := by
  have h0 := hg.le
  have h2 := hg.qu
  have h3 := hg.pa
  unfold due
  constructor <;> split <;> omega
/-- Until g has become Now it comes nearer. -/
theorem one_law {a : Ctl} {g : Nat} (hg : Good a) (hgl : g < a.wa.length) (hne : a.now ≠ g) (ho : Only a g) (k : Nat) :
    (∀ j, j < k → (iterS a (noneL a.wa.length) j).now ≠ g) → (iterS a (noneL a.wa.length) k).now = g ∨ ((iterS a (noneL a.wa.length) k).now = a.now ∧ Only (iterS a (noneL a.wa.length) k) g ∧ due (iterS a (noneL a.wa.length) k) ≤ 10 - k ∧ (k = 0 ∨ 1 ≤ due (iterS a (noneL a.wa.length) k))) := by
  induction k with
  | zero => intro _; exact .inr ⟨rfl, ho, by have := (one_due hg hgl hne ho (.inr trivial)).1; show due a ≤ _; omega, .inl rfl⟩
  | succ k ih =>
    intro hj
    have hk := hj k (by omega)
    obtain ⟨h1, h2, h3⟩ := iterS_good (cars := noneL a.wa.length) hg (by simp [noneL]) k
    rw [show (noneL a.wa.length).length = a.wa.length from List.length_replicate] at h2
    rcases ih fun j hlt => hj j (by omega) with h | ⟨h4, h5, h6, h7⟩
    · exact absurd h hk
    · have := one_step h1 (by rw [h2]; exact hgl) hk h5
      rw [h2] at this
      rcases this with h | ⟨h8, h9, h10, h11⟩
      · exact .inl h
      · exact .inr ⟨h8.trans h4, h9, by show due (stepF _ _) ≤ _; omega, .inr h11⟩
/-- After ten seconds g has become Now. -/
theorem one_end {a : Ctl} {g : Nat} (hg : Good a) (hgl : g < a.wa.length) (hne : a.now ≠ g) (ho : Only a g) (k : Nat) (hk : 10 ≤ k) (hj : ∀ j, j < k → (iterS a (noneL a.wa.length) j).now ≠ g) : (iterS a (noneL a.wa.length) k).now = g := by
  rcases one_law hg hgl hne ho k hj with h | ⟨_, _, h6, h7⟩
  · exact h
  · omega

/-! ### cars everywhere -/
/-- Behind the first second with cars everywhere. -/
def Full (a : Ctl) : Prop := ∀ i, i < a.wa.length → (i : Int) ≠ a.now ∨ 0 < a.le → gb a.wa i = true
theorem all_next {a : Ctl} (hg : Good a) (h2 : 2 ≤ a.wa.length) : nxF a (allL a.wa.length) = ((a.now.toNat + 1) % a.wa.length : Nat) := by
  have hl : a.wa.length = (allL a.wa.length).length := by simp [allL]
  have h1 := hg.now
  have h4 := hg.wa
  have hw : ∀ i, i < a.wa.length → (i : Int) ≠ a.now → gb (waF a (allL a.wa.length)) i = true := fun i hi hne => by
    rw [gb_waF hl, gb_all hi]
    simp
    omega
  have hne := turn_ne (n := a.wa.length) (now := a.now.toNat) (i := 1) (by omega) (Nat.le_refl _) (by omega)
  have hlt := Nat.mod_lt (a.now.toNat + 1) (show 0 < a.wa.length by omega)
  have g1 := hw _ hlt (by omega)
  have hno : nextI (waF a (allL a.wa.length)) a.now.toNat (a.wa.length - 1) ≠ -1 := fun hn => by
    have := nextI_no.mp hn 1 (Nat.le_refl _) (by omega)
    rw [waF_length hl, g1] at this
    cases this
  obtain ⟨j, h5, h6, h7, h8, h9⟩ := nextI_yes hno
  have hj : j = 1 := by
    refine Classical.byContradiction fun hne => ?_
    have := h9 1 (Nat.le_refl _) (by omega)
    rw [waF_length hl, g1] at this
    cases this
  subst hj
  rw [nxF, h7, waF_length hl]
/-- The seconds until the next stage has become Now. -/
def wait (a : Ctl) : Int := if 0 < a.le then 40 + a.le else 40 - a.pa
theorem all_step {a : Ctl} (hg : Good a) (h2 : 2 ≤ a.wa.length) :
    let b := stepF a (allL a.wa.length)
    (b.now = ((a.now.toNat + 1) % a.wa.length : Nat) ∧ wait b = 44) ∨ (b.now = a.now ∧ wait b ≤ wait a - 1 ∧ 1 ≤ wait b) := by
  intro b
  have h0 := hg.le
  have h1 := hg.now
  have h3 := hg.pa
  have h4 := hg.wa
  by_cases hle : 0 < a.le
  · right
    have e : b = _ := stepF_left hle
    rw [e]
    refine ⟨rfl, ?_, ?_⟩ <;> simp only [wait] <;> split <;> omega
  · have hnx := all_next hg h2
    have hq : quF a (allL a.wa.length) = 0 := by rw [quF, gb_all (by omega)]; simp
    cases hgo : goF a (allL a.wa.length) with
    | true =>
      left
      have e : b = _ := stepF_go hle hgo
      rw [e]
      exact ⟨hnx, by simp [wait]⟩
    | false =>
      right
      have e : b = _ := stepF_stay hle hgo
      have hno := goF_no.mp hgo
      rw [hnx, hq] at hno
      rw [e]
      refine ⟨rfl, ?_, ?_⟩ <;> simp only [wait] <;> omega
theorem wait_bd {a : Ctl} (hg : Good a) : 0 ≤ wait a ∧ wait a ≤ 45 := by
  have h0 := hg.le
  have h3 := hg.pa
  unfold wait
  split <;> omega
/-- Within 45 seconds the next stage becomes Now. -/
theorem all_turn {a : Ctl} (hg : Good a) (h2 : 2 ≤ a.wa.length) : ∀ (f : Nat) (k : Nat), (wait (iterS a (allL a.wa.length) k)).toNat ≤ f → (iterS a (allL a.wa.length) k).now = a.now → 
    ∃ j, k < j ∧ (j : Int) ≤ k + max (wait (iterS a (allL a.wa.length) k)) 1 ∧ (iterS a (allL a.wa.length) j).now = ((a.now.toNat + 1) % a.wa.length : Nat) := by
  intro f
  induction f with
  | zero =>
    intro k hf hk
    obtain ⟨h1, h3, h4⟩ := iterS_good (cars := allL a.wa.length) hg (by simp [allL]) k
    rw [show (allL a.wa.length).length = a.wa.length from List.length_replicate] at h3
    have hs := all_step h1 (by omega)
    rw [h3, hk] at hs
    rcases hs with ⟨h5, h6⟩ | ⟨h5, h6, h7⟩
    · exact ⟨k + 1, by omega, by omega, h5⟩
    · omega
  | succ f ih =>
    intro k hf hk
    obtain ⟨h1, h3, h4⟩ := iterS_good (cars := allL a.wa.length) hg (by simp [allL]) k
    rw [show (allL a.wa.length).length = a.wa.length from List.length_replicate] at h3
    have hs := all_step h1 (by omega)
    rw [h3, hk] at hs
    rcases hs with ⟨h5, h6⟩ | ⟨h5, h6, h7⟩
    · exact ⟨k + 1, by omega, by omega, h5⟩
    · obtain ⟨j, h8, h9, h10⟩ := ih (k + 1) (by show (wait (stepF _ _)).toNat ≤ f; omega) h5
      refine ⟨j, by omega, ?_, h10⟩
      have : (j : Int) ≤ ((k + 1 : Nat) : Int) + max (wait (stepF (iterS a (allL a.wa.length) k) (allL a.wa.length))) 1 := h9
      omega
theorem iterS_add (a : Ctl) (cars : List Bool) (k j : Nat) : iterS (iterS a cars k) cars j = iterS a cars (k + j) := by
  induction j with
  | zero => rfl
  | succ j ih => show stepF _ _ = stepF (iterS a cars (k + j)) cars; rw [ih]
/-- The stage that is t stages behind Now has become Now within 45 t seconds. -/
theorem all_law {a : Ctl} (hg : Good a) (h2 : 2 ≤ a.wa.length) (t : Nat) : ∃ j, j ≤ 45 * t ∧ (iterS a (allL a.wa.length) j).now = ((a.now.toNat + t) % a.wa.length : Nat) := by
  have hn := hg.now
  have hw := hg.wa
  induction t with
  | zero => exact ⟨0, by omega, by show a.now = _; rw [Nat.mod_eq_of_lt (by omega)]; omega⟩
  | succ t ih =>
    obtain ⟨j, h3, h4⟩ := ih
    obtain ⟨h5, h6, h7⟩ := iterS_good (cars := allL a.wa.length) hg (by simp [allL]) j
    rw [show (allL a.wa.length).length = a.wa.length from List.length_replicate] at h6
    have hb := wait_bd h5
    obtain ⟨i, h8, h9, h10⟩ := all_turn h5 (by omega) _ 0 (Nat.le_refl _) rfl
    rw [h6, iterS_add, h4, Int.toNat_natCast, Nat.mod_add_mod] at h10
    refine ⟨j + i, ?_, h10⟩
    have : (i : Int) ≤ ((0 : Nat) : Int) + max (wait (iterS a (allL a.wa.length) j)) 1 := h9
    omega
theorem all_seen {a : Ctl} (hg : Good a) {i : Nat} (hi : i < a.wa.length) : ∃ j, j ≤ 45 * (a.wa.length - 1) ∧ (iterS a (allL a.wa.length) j).now = i := by
  have h1 := hg.now
  have h4 := hg.wa
  by_cases e : (i : Int) = a.now
  · exact ⟨0, by omega, e.symm⟩
  · obtain ⟨t, h5, h6, h7⟩ := turn_to (n := a.wa.length) (now := a.now.toNat) (i := i) (by omega) hi (by omega)
    obtain ⟨j, h8, h9⟩ := all_law hg (by omega) t
    exact ⟨j, by omega, by rw [h9, h7]⟩
end Go.Proofs.Ytkppjngpllmpfaa
