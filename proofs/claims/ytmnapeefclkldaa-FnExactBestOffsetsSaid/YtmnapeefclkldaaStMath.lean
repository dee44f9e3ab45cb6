/-
  Streets, in plain Lean.
-/
import Derived.Test.YtmnapeefclkldaaLs
namespace Go.Proofs.Ytmnapeefclkldaa
set_option linter.unusedVariables false

def ga (ar : List Int) (k : Nat) : Int := ar.getD k 0
theorem ga_at {ar : List Int} {k : Nat} (h : k < ar.length) : ar[k] = ga ar k := by simp [ga, h]
theorem allB_at {zs : List Int} {lo hi : Int} (h : allB zs lo hi = true) {k : Nat} (hk : k < zs.length) : lo ≤ ga zs k ∧ ga zs k ≤ hi := by
  have := List.all_eq_true.mp h _ (List.getElem_mem hk)
  simp [inB] at this
  rwa [ga_at hk] at this
theorem allB_of {zs : List Int} {lo hi : Int} (h : ∀ k, k < zs.length → lo ≤ ga zs k ∧ ga zs k ≤ hi) : allB zs lo hi = true := by
  refine List.all_eq_true.mpr fun z hz => ?_
  obtain ⟨k, hk, rfl⟩ := List.getElem_of_mem hz
  have := h k hk
  rw [ga_at hk]
  simp [inB, this]
def mapN {α : Type} (n : Nat) (f : Nat → α) : List α := (List.range n).map f
theorem mapN_length {α : Type} (n : Nat) (f : Nat → α) : (mapN n f).length = n := by simp [mapN]
theorem mapN_get {α : Type} (n : Nat) (f : Nat → α) (k : Nat) (h : k < (mapN n f).length) : (mapN n f)[k] = f k := by simp [mapN]
theorem mapN_congr {α : Type} {n : Nat} {f g : Nat → α} (h : ∀ i, i < n → f i = g i) : mapN n f = mapN n g := by
  apply List.ext_getElem
  · rw [mapN_length, mapN_length]
  · intro i h1 h2
    rw [mapN_get, mapN_get, h i (by rwa [mapN_length] at h1)]
theorem mapN_set {α : Type} (n : Nat) (f : Nat → α) (k : Nat) (v : α) : (mapN n f).set k v = mapN n fun i => if i = k then v else f i := by
  apply List.ext_getElem
  · rw [List.length_set, mapN_length, mapN_length]
  · intro i h1 h2
    rw [mapN_get, List.getElem_set]
    by_cases e : k = i
    · rw [if_pos e, if_pos e.symm]
    · rw [if_neg e, if_neg (fun h => e h.symm), mapN_get]
theorem mapN_succ {α : Type} (n : Nat) (f : Nat → α) : mapN (n + 1) f = mapN n f ++ [f n] := by simp [mapN, List.range_succ]
theorem ga_mapN {n : Nat} {f : Nat → Int} {i : Nat} (h : i < n) : ga (mapN n f) i = f i := by
  rw [← ga_at (by rwa [mapN_length]), mapN_get]
theorem mapN_self (l : List Int) : mapN l.length (ga l) = l := by
  apply List.ext_getElem
  · rw [mapN_length]
  · intro i h1 h2
    rw [mapN_get, ga_at h2]

/-! ### a street -/
structure St where
  cy : Int
  gr : List Int
  tr : List Int
def validT (s : St) : Bool := inB s.cy 1 30 && inB (s.gr.length : Int) 1 4 && decide ((s.tr.length : Int) = (s.gr.length : Int) - 1) && allB s.gr 0 s.cy && allB s.tr 0 60
def validO (s : St) (os : List Int) : Bool := validT s && decide (os.length = s.gr.length) && allB os 0 (s.cy - 1)
/-- The time from the first crossing to crossing i. -/
def goT (s : St) (i : Nat) : Int := sumL (s.tr.take i)
def okAt (s : St) (os : List Int) (t : Int) (i : Nat) : Bool := decide ((t + goT s i + s.cy - ga os i) % s.cy < ga s.gr i)
theorem okAt_iff {s : St} {os : List Int} {t : Int} {i : Nat} : okAt s os t i = true ↔ (t + goT s i + s.cy - ga os i) % s.cy < ga s.gr i := by simp [okAt]
def passN (s : St) (os : List Int) (t : Int) (n : Nat) : Bool := (List.range n).all fun i => okAt s os t i
def passF (s : St) (os : List Int) (t : Int) : Bool := passN s os t s.gr.length
def cntN (f : Nat → Bool) : Nat → Int
  | 0 => 0
  | n + 1 => cntN f n + if f n then 1 else 0
def bandN (s : St) (os : List Int) (n : Nat) : Int := cntN (fun t => passF s os t) n
def bandF (s : St) (os : List Int) : Int := if validO s os then bandN s os s.cy.toNat else -1
def passesF (s : St) (os : List Int) (t : Int) : Bool := validO s os && inB t 0 9999 && passF s os t
def waveL (s : St) : List Int := mapN s.gr.length fun i => goT s i % s.cy
def waveF (s : St) : List Int := if validT s then waveL s else []

structure GoodT (s : St) : Prop where
  c1 : 1 ≤ s.cy
  c2 : s.cy ≤ 30
  g1 : 1 ≤ s.gr.length
  g2 : s.gr.length ≤ 4
  tl : s.tr.length + 1 = s.gr.length
  gb : ∀ i, i < s.gr.length → 0 ≤ ga s.gr i ∧ ga s.gr i ≤ s.cy
  tb : ∀ i, i < s.tr.length → 0 ≤ ga s.tr i ∧ ga s.tr i ≤ 60
theorem validT_iff {s : St} : validT s = true ↔ GoodT s := by
  constructor
  · intro h
    simp only [validT, Bool.and_eq_true, decide_eq_true_eq] at h
    obtain ⟨⟨⟨⟨h1, h2⟩, h3⟩, h4⟩, h5⟩ := h
    simp [inB] at h1 h2
    exact ⟨h1.1, h1.2, by omega, by omega, by omega, fun i hi => allB_at h4 hi, fun i hi => allB_at h5 hi⟩
  · rintro ⟨h1, h2, h3, h4, h5, h6, h7⟩
    simp only [validT, Bool.and_eq_true, decide_eq_true_eq]
    exact ⟨⟨⟨⟨by simp [inB]; omega, by simp [inB]; omega⟩, by omega⟩, allB_of h6⟩, allB_of h7⟩
structure GoodO (s : St) (os : List Int) : Prop where
  g : GoodT s
  ol : os.length = s.gr.length
  ob : ∀ i, i < os.length → 0 ≤ ga os i ∧ ga os i ≤ s.cy - 1
theorem validO_iff {s : St} {os : List Int} : validO s os = true ↔ GoodO s os := by
  constructor
  · intro h
    simp only [validO, Bool.and_eq_true, decide_eq_true_eq] at h
    obtain ⟨⟨h1, h2⟩, h3⟩ := h
    exact ⟨validT_iff.mp h1, h2, fun i hi => allB_at h3 hi⟩
  · rintro ⟨h1, h2, h3⟩
    simp only [validO, Bool.and_eq_true, decide_eq_true_eq]
    exact ⟨⟨validT_iff.mpr h1, h2⟩, allB_of h3⟩
theorem goT_zero (s : St) : goT s 0 = 0 := by simp [goT, sumL]
theorem goT_succ (s : St) (i : Nat) (hi : i < s.tr.length) : goT s (i + 1) = goT s i + ga s.tr i := by
  rw [goT, sumL_take _ _ hi, ga_at hi]; rfl
theorem goT_bd {s : St} (h : GoodT s) (i : Nat) (hi : i ≤ s.tr.length) : 0 ≤ goT s i ∧ goT s i ≤ 60 * (i : Int) := by
  induction i with
  | zero => rw [goT_zero]; omega
  | succ i ih =>
    have h1 := ih (by omega)
    have h2 := h.tb i (by omega)
    rw [goT_succ s i (by omega)]
    omega
theorem passN_succ (s : St) (os : List Int) (t : Int) (n : Nat) : passN s os t (n + 1) = (passN s os t n && okAt s os t n) := by
  simp [passN, List.range_succ]
theorem passN_iff {s : St} {os : List Int} {t : Int} {n : Nat} : passN s os t n = true ↔ ∀ i, i < n → okAt s os t i = true := by
  simp [passN]
theorem passF_not {s : St} {os : List Int} {t : Int} {i : Nat} (hi : i < s.gr.length) (h : okAt s os t i = false) : passF s os t = false := by
  cases hp : passF s os t with
  | false => rfl
  | true => rw [passN_iff.mp hp i hi] at h; cases h
theorem emod_shift (a b c : Int) : (a % c + b) % c = (a + b) % c := Int.emod_add_emod a c b
theorem okAt_mod (s : St) (os : List Int) (t : Int) (i : Nat) : okAt s os (t % s.cy) i = okAt s os t i := by
  unfold okAt
  rw [show t % s.cy + goT s i + s.cy - ga os i = t % s.cy + (goT s i + s.cy - ga os i) by omega, emod_shift, show t + (goT s i + s.cy - ga os i) = t + goT s i + s.cy - ga os i by omega]
theorem okAt_add (s : St) (os : List Int) (t : Int) (i : Nat) : okAt s os (t + s.cy) i = okAt s os t i := by
  rw [← okAt_mod s os (t + s.cy), Int.add_emod_right, okAt_mod]
theorem passF_mod (s : St) (os : List Int) (t : Int) : passF s os (t % s.cy) = passF s os t := by
  unfold passF passN
  congr 1
  funext i
  exact okAt_mod s os t i
theorem passF_add (s : St) (os : List Int) (t : Int) : passF s os (t + s.cy) = passF s os t := by
  unfold passF passN
  congr 1
  funext i
  exact okAt_add s os t i
theorem pass_pos {s : St} {os : List Int} {t : Int} (hg : GoodT s) (h : passF s os t = true) {i : Nat} (hi : i < s.gr.length) : 0 < ga s.gr i := by
  have := okAt_iff.mp (passN_iff.mp h i hi)
  have h2 := Int.emod_nonneg (t + goT s i + s.cy - ga os i) (show s.cy ≠ 0 by have := hg.c1; omega)
  omega

/-! ### counting -/
theorem cntN_bd (f : Nat → Bool) (n : Nat) : 0 ≤ cntN f n ∧ cntN f n ≤ n := by
  induction n with
  | zero => simp [cntN]
  | succ n ih => rw [cntN]; split <;> omega
theorem cntN_congr {f g : Nat → Bool} {n : Nat} (h : ∀ i, i < n → f i = g i) : cntN f n = cntN g n := by
  induction n with
  | zero => rfl
  | succ n ih => rw [cntN, cntN, ih fun i hi => h i (by omega), h n (by omega)]
theorem cntN_mono {f g : Nat → Bool} {n : Nat} (h : ∀ i, i < n → f i = true → g i = true) : cntN f n ≤ cntN g n := by
  induction n with
  | zero => exact Int.le_refl _
  | succ n ih =>
    have h1 := ih fun i hi => h i (by omega)
    have h2 := h n (by omega)
    rw [cntN, cntN]
    cases hf : f n
    · simp; split <;> omega
    · rw [h2 hf]; simp; omega
theorem cntN_head (f : Nat → Bool) (n : Nat) : cntN f (n + 1) = (if f 0 then 1 else 0) + cntN (fun i => f (i + 1)) n := by
  induction n with
  | zero => simp [cntN]
  | succ n ih => rw [cntN, ih, cntN]; omega
/-- A window of a whole cycle may begin anywhere. -/
theorem cntN_turn {f : Nat → Bool} {c : Nat} (h : ∀ i, f (i + c) = f i) : cntN (fun i => f (i + 1)) c = cntN f c := by
  have h1 := cntN_head f c
  have h2 : cntN f (c + 1) = cntN f c + if f c then 1 else 0 := rfl
  have h3 := h 0
  rw [Nat.zero_add] at h3
  rw [h3] at h2
  omega
theorem cntN_turnN {f : Nat → Bool} {c : Nat} (h : ∀ i, f (i + c) = f i) (k : Nat) : cntN (fun i => f (i + k)) c = cntN f c := by
  induction k with
  | zero => rfl
  | succ k ih =>
    rw [← ih]
    have := cntN_turn (f := fun i => f (i + k)) (c := c) fun i => by
      show f (i + c + k) = f (i + k)
      rw [show i + c + k = i + k + c by omega]; exact h _
    rw [← this]
    refine cntN_congr fun i _ => ?_
    show f (i + (k + 1)) = f (i + 1 + k)
    rw [show i + (k + 1) = i + 1 + k by omega]
theorem cntN_less (g : Int) (n : Nat) (hg : 0 ≤ g) : cntN (fun t => decide ((t : Int) < g)) n = min (n : Int) g := by
  induction n with
  | zero => simp [cntN]; omega
  | succ n ih =>
    rw [cntN, ih]
    by_cases h : (n : Int) < g
    · simp [h]; omega
    · simp [h]; omega
/-- In a cycle of c seconds just g have a rest below g. -/
theorem cntN_green (c : Int) (x g : Int) (hc : 1 ≤ c) (hx : 0 ≤ x) (h0 : 0 ≤ g) (hg : g ≤ c) : cntN (fun t => decide (((t : Int) + x) % c < g)) c.toNat = g := by
  obtain ⟨k, rfl⟩ := Int.eq_ofNat_of_zero_le hx
  obtain ⟨n, rfl⟩ := Int.eq_ofNat_of_zero_le (show 0 ≤ c by omega)
  have key := cntN_turnN (f := fun t : Nat => decide ((t : Int) % (n : Int) < g)) (c := n) (fun i => by
    show decide (((i + n : Nat) : Int) % (n : Int) < g) = decide ((i : Int) % (n : Int) < g)
    rw [Int.natCast_add, Int.add_emod_right]) k
  have h2 : cntN (fun t : Nat => decide ((t : Int) % (n : Int) < g)) n = cntN (fun t => decide ((t : Int) < g)) n := cntN_congr fun i hi => by
    show decide ((i : Int) % (n : Int) < g) = decide ((i : Int) < g)
    rw [Int.emod_eq_of_lt (by omega) (by omega)]
  rw [h2, cntN_less g n h0] at key
  have h3 : cntN (fun t : Nat => decide (((t : Int) + ((k : Nat) : Int)) % ((n : Nat) : Int) < g)) n = cntN (fun i : Nat => decide (((i + k : Nat) : Int) % (n : Int) < g)) n := cntN_congr fun i hi => by
    show decide (((i : Int) + (k : Int)) % (n : Int) < g) = decide (((i + k : Nat) : Int) % (n : Int) < g)
    rw [Int.natCast_add]
  rw [show ((n : Nat) : Int).toNat = n by omega]
  rw [h3, key]
  omega

/-! ### the laws -/
theorem band_nonneg {s : St} {os : List Int} (h : GoodO s os) : 0 ≤ bandF s os ∧ bandF s os ≤ 30 := by
  rw [bandF, if_pos (validO_iff.mpr h)]
  have := cntN_bd (fun t => passF s os t) s.cy.toNat
  have := h.g.c1
  have := h.g.c2
  unfold bandN
  omega
theorem band_green {s : St} {os : List Int} (h : GoodO s os) {i : Nat} (hi : i < s.gr.length) : bandF s os ≤ ga s.gr i := by
  have hb := h.g.gb i hi
  have hgo := goT_bd h.g i (by have := h.g.tl; omega)
  have ho := h.ob i (by rw [h.ol]; exact hi)
  rw [bandF, if_pos (validO_iff.mpr h), ← cntN_green s.cy (goT s i + s.cy - ga os i) (ga s.gr i) h.g.c1 (by omega) hb.1 hb.2]
  refine cntN_mono fun t ht hp => ?_
  have := okAt_iff.mp (passN_iff.mp hp i hi)
  refine decide_eq_true ?_
  rwa [show (t : Int) + (goT s i + s.cy - ga os i) = (t : Int) + goT s i + s.cy - ga os i by omega]
/-- The least green of the first k. -/
def leastN (gr : List Int) : Nat → Int
  | 0 => ga gr 0
  | k + 1 => min (leastN gr k) (ga gr k)
theorem leastN_le (gr : List Int) (k : Nat) {i : Nat} (hi : i < k) : leastN gr k ≤ ga gr i := by
  induction k with
  | zero => omega
  | succ k ih =>
    rw [leastN]
    by_cases e : i = k
    · subst e; omega
    · have := ih (by omega); omega
theorem leastN_is (gr : List Int) (k : Nat) : ∃ i, (i = 0 ∨ i < k) ∧ leastN gr k = ga gr i := by
  induction k with
  | zero => exact ⟨0, .inl rfl, rfl⟩
  | succ k ih =>
    obtain ⟨i, hi, e⟩ := ih
    rw [leastN, e]
    by_cases h : ga gr i ≤ ga gr k
    · exact ⟨i, by omega, by omega⟩
    · exact ⟨k, by omega, by omega⟩
theorem wave_good {s : St} (h : GoodT s) : GoodO s (waveL s) := by
  refine ⟨h, mapN_length _ _, fun i hi => ?_⟩
  rw [waveL, mapN_length] at hi
  rw [waveL, ga_mapN hi]
  have h1 := Int.emod_nonneg (goT s i) (show s.cy ≠ 0 by have := h.c1; omega)
  have h2 := Int.emod_lt_of_pos (goT s i) (show 0 < s.cy by have := h.c1; omega)
  omega
theorem wave_band {s : St} (h : GoodT s) : bandF s (waveL s) = leastN s.gr s.gr.length := by
  have hg := wave_good h
  have c1 := h.c1
  obtain ⟨j, hj, ej⟩ := leastN_is s.gr s.gr.length
  have hj2 : j < s.gr.length := by have := h.g1; omega
  have hb := h.gb j hj2
  rw [bandF, if_pos (validO_iff.mpr hg), bandN]
  have : cntN (fun t : Nat => passF s (waveL s) (t : Int)) s.cy.toNat = cntN (fun t : Nat => decide ((t : Int) < leastN s.gr s.gr.length)) s.cy.toNat := cntN_congr fun t ht => by
    have hok : ∀ i, i < s.gr.length → okAt s (waveL s) (t : Int) i = decide ((t : Int) < ga s.gr i) := fun i hi => by
      unfold okAt
      rw [waveL, ga_mapN hi]
      have e : (t : Int) + goT s i + s.cy - goT s i % s.cy = (t : Int) + s.cy * (goT s i / s.cy + 1) := by
        have := Int.mul_ediv_add_emod (goT s i) s.cy
        rw [Int.mul_add, Int.mul_one]
        omega
      rw [e, Int.add_mul_emod_self_left, Int.emod_eq_of_lt (by omega) (by omega)]
    show passF s (waveL s) (t : Int) = decide ((t : Int) < leastN s.gr s.gr.length)
    by_cases hlt : (t : Int) < leastN s.gr s.gr.length
    · rw [decide_eq_true hlt]
      refine passN_iff.mpr fun i hi => ?_
      rw [hok i hi]
      have := leastN_le s.gr s.gr.length hi
      exact decide_eq_true (by omega)
    · rw [decide_eq_false hlt]
      refine passF_not hj2 ?_
      rw [hok j hj2]
      exact decide_eq_false (by omega)
  rw [this, cntN_less _ _ (by omega)]
  omega
theorem wave_head {s : St} (h : GoodT s) : ga (waveL s) 0 = 0 := by
  rw [waveL, ga_mapN (by have := h.g1; omega), goT_zero]; simp

/-- Green everywhere. -/
def allS (s : St) : St := ⟨s.cy, List.replicate s.gr.length s.cy, s.tr⟩
theorem ga_rep {n : Nat} {v : Int} {i : Nat} (h : i < n) : ga (List.replicate n v) i = v := by simp [ga, h]
theorem all_good {s : St} {os : List Int} (h : GoodO s os) : GoodO (allS s) os := by
  have h1 := h.g
  refine ⟨⟨h1.c1, h1.c2, by simpa [allS] using h1.g1, by simpa [allS] using h1.g2, by simpa [allS] using h1.tl, fun i hi => ?_, h1.tb⟩, by simpa [allS] using h.ol, h.ob⟩
  simp only [allS, List.length_replicate] at hi ⊢
  rw [ga_rep hi]
  have := h1.c1
  omega
theorem all_band {s : St} {os : List Int} (h : GoodO s os) : bandF (allS s) os = s.cy := by
  have hg := all_good h
  have c1 := h.g.c1
  rw [bandF, if_pos (validO_iff.mpr hg), bandN]
  have : cntN (fun t : Nat => passF (allS s) os (t : Int)) s.cy.toNat = cntN (fun t : Nat => decide ((t : Int) < s.cy)) s.cy.toNat := cntN_congr fun t ht => by
    show passF (allS s) os (t : Int) = decide ((t : Int) < s.cy)
    rw [decide_eq_true (by omega)]
    refine passN_iff.mpr fun i hi => ?_
    simp only [allS, List.length_replicate] at hi
    rw [okAt_iff]
    simp only [allS]
    rw [ga_rep hi]
    exact Int.emod_lt_of_pos _ (by omega)
  show cntN (fun t : Nat => passF (allS s) os (t : Int)) s.cy.toNat = s.cy
  rw [this, cntN_less _ _ (by omega)]
  omega
/-- One crossing is never green. -/
def noneS (s : St) (j : Nat) : St := ⟨s.cy, s.gr.set j 0, s.tr⟩
theorem ga_set {l : List Int} {k : Nat} {v : Int} (hk : k < l.length) (i : Nat) : ga (l.set k v) i = if i = k then v else ga l i := by
  by_cases e : i = k
  · subst e; simp [ga, hk]
  · simp [ga, e, Ne.symm e]
theorem none_good {s : St} {os : List Int} (h : GoodO s os) {j : Nat} (hj : j < s.gr.length) : GoodO (noneS s j) os := by
  have h1 := h.g
  refine ⟨⟨h1.c1, h1.c2, by simpa [noneS] using h1.g1, by simpa [noneS] using h1.g2, by simpa [noneS] using h1.tl, fun i hi => ?_, h1.tb⟩, by simpa [noneS] using h.ol, h.ob⟩
  simp only [noneS, List.length_set] at hi ⊢
  rw [ga_set hj]
  have := h1.c1
  have := h1.gb i hi
  split <;> omega
theorem none_band {s : St} {os : List Int} (h : GoodO s os) {j : Nat} (hj : j < s.gr.length) : bandF (noneS s j) os = 0 := by
  have hg := none_good h hj
  have h1 := band_nonneg hg
  have h2 := band_green hg (i := j) (by simpa [noneS] using hj)
  rw [noneS, ga_set hj, if_pos rfl] at h2
  simp only [noneS] at h1 ⊢
  omega
/-- A shorter street. -/
def cutS (s : St) (k : Nat) : St := ⟨s.cy, s.gr.take k, s.tr.take (k - 1)⟩
theorem ga_take {l : List Int} {k i : Nat} (h : i < k) : ga (l.take k) i = ga l i := by simp [ga, h]
theorem cut_good {s : St} {os : List Int} (h : GoodO s os) {k : Nat} (hk : k ≤ s.gr.length) (hk0 : 1 ≤ k) : GoodO (cutS s k) (os.take k) := by
  have h1 := h.g
  have ho := h.ol
  have ht := h1.tl
  refine ⟨⟨h1.c1, h1.c2, by simp [cutS]; omega, by simp [cutS]; have := h1.g2; omega, by simp [cutS]; omega, fun i hi => ?_, fun i hi => ?_⟩, by simp [cutS]; omega, fun i hi => ?_⟩
  · simp only [cutS, List.length_take] at hi ⊢
    rw [ga_take (by omega)]
    exact h1.gb i (by omega)
  · simp only [cutS, List.length_take] at hi ⊢
    rw [ga_take (by omega)]
    exact h1.tb i (by omega)
  · simp only [List.length_take] at hi
    rw [ga_take (by omega)]
    exact h.ob i (by omega)
theorem cut_band {s : St} {os : List Int} (h : GoodO s os) {k : Nat} (hk : k ≤ s.gr.length) (hk0 : 1 ≤ k) : bandF s os ≤ bandF (cutS s k) (os.take k) := by
  rw [bandF, if_pos (validO_iff.mpr h), bandF, if_pos (validO_iff.mpr (cut_good h hk hk0))]
  refine cntN_mono fun t ht hp => passN_iff.mpr fun i hi => ?_
  simp only [cutS, List.length_take] at hi
  have := passN_iff.mp hp i (by omega)
  rw [okAt_iff] at this ⊢
  simp only [cutS, goT] at this ⊢
  rwa [ga_take (by omega), ga_take (by omega), List.take_take, show min i (k - 1) = i by omega]
/-- All offsets one second later. -/
def shiftO (s : St) (os : List Int) : List Int := mapN os.length fun i => (ga os i + 1) % s.cy
theorem shift_good {s : St} {os : List Int} (h : GoodO s os) : GoodO s (shiftO s os) := by
  refine ⟨h.g, by rw [shiftO, mapN_length]; exact h.ol, fun i hi => ?_⟩
  rw [shiftO, mapN_length] at hi
  rw [shiftO, ga_mapN hi]
  have c1 := h.g.c1
  have h1 := Int.emod_nonneg (ga os i + 1) (show s.cy ≠ 0 by omega)
  have h2 := Int.emod_lt_of_pos (ga os i + 1) (show 0 < s.cy by omega)
  omega
theorem shift_band {s : St} {os : List Int} (h : GoodO s os) : bandF s (shiftO s os) = bandF s os := by
  have c1 := h.g.c1
  rw [bandF, if_pos (validO_iff.mpr (shift_good h)), bandF, if_pos (validO_iff.mpr h), bandN, bandN]
  have key : ∀ t : Int, passF s (shiftO s os) (t + 1) = passF s os t := fun t => by
    have hok : ∀ i, i < s.gr.length → okAt s (shiftO s os) (t + 1) i = okAt s os t i := fun i hi => by
      unfold okAt
      rw [shiftO, ga_mapN (by rw [h.ol]; exact hi)]
      have e : t + 1 + goT s i + s.cy - (ga os i + 1) % s.cy = (t + goT s i + s.cy - ga os i) + s.cy * ((ga os i + 1) / s.cy) := by
        have := Int.mul_ediv_add_emod (ga os i + 1) s.cy
        omega
      rw [e, Int.add_mul_emod_self_left]
    unfold passF
    cases hp : passN s os t s.gr.length with
    | true => exact passN_iff.mpr fun i hi => by rw [hok i hi]; exact passN_iff.mp hp i hi
    | false =>
      cases hq : passN s (shiftO s os) (t + 1) s.gr.length with
      | false => rfl
      | true => rw [← hp]; exact (passN_iff.mpr fun i hi => by rw [← hok i hi]; exact passN_iff.mp hq i hi).symm
  have ht := cntN_turn (f := fun t : Nat => passF s (shiftO s os) (t : Int)) (c := s.cy.toNat) fun i => by
    show passF s (shiftO s os) ((i + s.cy.toNat : Nat) : Int) = passF s (shiftO s os) (i : Int)
    rw [Int.natCast_add, show ((s.cy.toNat : Nat) : Int) = s.cy by omega, passF_add]
  rw [← ht]
  refine cntN_congr fun i _ => ?_
  show passF s (shiftO s os) ((i + 1 : Nat) : Int) = passF s os (i : Int)
  rw [Int.natCast_add]
  exact key _

/-! ### both ways -/
def revS (s : St) : St := ⟨s.cy, s.gr.reverse, s.tr.reverse⟩
def twoF (s : St) (os : List Int) : Int := if validO s os then bandF s os + bandF (revS s) os.reverse else -1
theorem ga_rev {l : List Int} {i : Nat} (h : i < l.length) : ga l.reverse i = ga l (l.length - 1 - i) := by
  rw [← ga_at (by simpa using h), List.getElem_reverse, ga_at]
theorem rev_good {s : St} {os : List Int} (h : GoodO s os) : GoodO (revS s) os.reverse := by
  have h1 := h.g
  refine ⟨⟨h1.c1, h1.c2, by simpa [revS] using h1.g1, by simpa [revS] using h1.g2, by simpa [revS] using h1.tl, fun i hi => ?_, fun i hi => ?_⟩, by simpa [revS] using h.ol, fun i hi => ?_⟩
  · simp only [revS, List.length_reverse] at hi ⊢
    rw [ga_rev hi]
    exact h1.gb _ (by omega)
  · simp only [revS, List.length_reverse] at hi ⊢
    rw [ga_rev hi]
    exact h1.tb _ (by omega)
  · simp only [List.length_reverse] at hi
    rw [ga_rev hi]
    exact h.ob _ (by omega)
theorem rev_rev (s : St) : revS (revS s) = s := by simp [revS]
theorem two_rev {s : St} {os : List Int} (h : GoodO s os) : twoF (revS s) os.reverse = twoF s os := by
  rw [twoF, if_pos (validO_iff.mpr (rev_good h)), twoF, if_pos (validO_iff.mpr h), rev_rev, List.reverse_reverse]
  omega
end Go.Proofs.Ytmnapeefclkldaa
