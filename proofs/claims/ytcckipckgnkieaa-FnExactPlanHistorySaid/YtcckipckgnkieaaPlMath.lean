/-
  Tables of clearance times, histories and plans, in plain Lean.
-/
import Derived.Test.YtcckipckgnkieaaLs
namespace Go.Proofs.Ytcckipckgnkieaa
set_option linter.unusedVariables false

def ga (ar : List Int) (k : Nat) : Int := ar.getD k 0
theorem ga_at {ar : List Int} {k : Nat} (h : k < ar.length) : ar[k] = ga ar k := by simp [ga, h]
theorem ga_mem {ar : List Int} {k : Nat} (h : k < ar.length) : ga ar k ∈ ar := by rw [← ga_at h]; exact List.getElem_mem h
theorem mem_ga {ar : List Int} {x : Int} (h : x ∈ ar) : ∃ k, k < ar.length ∧ ga ar k = x := by
  obtain ⟨k, hk, e⟩ := List.getElem_of_mem h
  exact ⟨k, hk, by rw [← ga_at hk, e]⟩
def mapN {α : Type} (n : Nat) (f : Nat → α) : List α := (List.range n).map f
theorem mapN_length {α : Type} (n : Nat) (f : Nat → α) : (mapN n f).length = n := by simp [mapN]
theorem mapN_get {α : Type} (n : Nat) (f : Nat → α) (k : Nat) (h : k < (mapN n f).length) : (mapN n f)[k] = f k := by simp [mapN]
theorem mapN_succ {α : Type} (n : Nat) (f : Nat → α) : mapN (n + 1) f = mapN n f ++ [f n] := by simp [mapN, List.range_succ]
theorem mapN_congr {α : Type} {n : Nat} {f g : Nat → α} (h : ∀ i, i < n → f i = g i) : mapN n f = mapN n g := by
  apply List.ext_getElem
  · rw [mapN_length, mapN_length]
  · intro i h1 h2
    rw [mapN_get, mapN_get, h i (by rwa [mapN_length] at h1)]
theorem mapN_set {α : Type} (n : Nat) (f : Nat → α) (k : Nat) (v : α) : (mapN n f).set k v = mapN n fun i => if i = k then v else f i := by
  apply List.ext_getElem
  · rw [List.length_set, mapN_length, mapN_length]
  · intro i h1 h2
    rw [mapN_get, List.getElem_set]
    by_cases e : k = i
    · rw [if_pos e, if_pos e.symm]
    · rw [if_neg e, if_neg (fun h => e h.symm), mapN_get]

/-- The moves of one second. -/
def gm (h : List (List Int)) (k : Nat) : List Int := h.getD k []
theorem gm_at {h : List (List Int)} {k : Nat} (hk : k < h.length) : h[k] = gm h k := by simp [gm, hk]
theorem gm_mapN {n : Nat} {f : Nat → List Int} {k : Nat} (h : k < n) : gm (mapN n f) k = f k := by
  rw [← gm_at (by rwa [mapN_length]), mapN_get]
theorem mapN_gm (h : List (List Int)) : mapN h.length (gm h) = h := by
  apply List.ext_getElem
  · rw [mapN_length]
  · intro i h1 h2
    rw [mapN_get, gm_at h2]
theorem gm_ext {a b : List (List Int)} (h : a.length = b.length) (he : ∀ k, k < a.length → gm a k = gm b k) : a = b :=
  List.ext_getElem h fun i h1 h2 => by rw [gm_at h1, gm_at h2]; exact he i h1

/-! ### clearance times -/
def tc (t : List (List Int)) (a b : Nat) : Int := ga (gm t a) b
def tz (t : List (List Int)) (a b : Int) : Int := tc t a.toNat b.toNat
structure GoodC (t : List (List Int)) : Prop where
  n1 : 1 ≤ t.length
  n2 : t.length ≤ 8
  rl : ∀ a, a < t.length → (gm t a).length = t.length
  bd : ∀ a b, a < t.length → b < t.length → 0 ≤ tc t a b ∧ tc t a b ≤ 5
  sy : ∀ a b, a < t.length → b < t.length → (0 < tc t a b ↔ 0 < tc t b a)
  di : ∀ a, a < t.length → tc t a a = 0
open Classical in
noncomputable def dec (p : Prop) : Bool := decide p
theorem dec_iff {p : Prop} : dec p = true ↔ p := by simp [dec]
theorem dec_not {p : Prop} : dec p = false ↔ ¬ p := by simp [dec]
theorem dec_eq {p q : Prop} (h : p ↔ q) : dec p = dec q := by rw [propext h]
noncomputable def validC (t : List (List Int)) : Bool := dec (GoodC t)

/-! ### the moves of a second -/
structure GoodM (n : Nat) (m : List Int) : Prop where
  bd : ∀ x ∈ m, 0 ≤ x ∧ x < (n : Int)
  asc : m.Pairwise (· < ·)
noncomputable def validM (n : Nat) (m : List Int) : Bool := dec (GoodM n m)
theorem asc_lt {m : List Int} (h : m.Pairwise (· < ·)) {i j : Nat} (hij : i < j) (hj : j < m.length) : ga m i < ga m j := by
  have := List.pairwise_iff_getElem.mp h i j (by omega) hj hij
  rwa [ga_at, ga_at] at this
theorem asc_of {m : List Int} (h : ∀ i, i + 1 < m.length → ga m i < ga m (i + 1)) : m.Pairwise (· < ·) := by
  have key : ∀ d i, i + d + 1 < m.length → ga m i < ga m (i + d + 1) := by
    intro d
    induction d with
    | zero => exact fun i hi => h i hi
    | succ d ih =>
      intro i hi
      have h1 := ih i (by omega)
      have h2 := h (i + d + 1) (by omega)
      rw [show i + (d + 1) + 1 = i + d + 1 + 1 by omega]
      omega
  refine List.pairwise_iff_getElem.mpr fun i j hi hj hij => ?_
  rw [ga_at, ga_at]
  have := key (j - i - 1) i (by omega)
  rwa [show i + (j - i - 1) + 1 = j by omega] at this
theorem GoodM.get {n : Nat} {m : List Int} (h : GoodM n m) {i : Nat} (hi : i < m.length) : 0 ≤ ga m i ∧ ga m i < (n : Int) := h.bd _ (ga_mem hi)
theorem GoodM.len {n : Nat} {m : List Int} (h : GoodM n m) : m.length ≤ n := by
  have key : ∀ i, i < m.length → (i : Int) ≤ ga m i := by
    intro i
    induction i with
    | zero => exact fun hi => (h.get hi).1
    | succ i ih =>
      intro hi
      have h1 := ih (by omega)
      have h2 := asc_lt h.asc (i := i) (j := i + 1) (by omega) hi
      omega
  by_cases h0 : m.length = 0
  · omega
  have h1 := key (m.length - 1) (by omega)
  have h2 := h.get (i := m.length - 1) (by omega)
  omega
theorem GoodM.filter {n : Nat} {m : List Int} (h : GoodM n m) (p : Int → Bool) : GoodM n (m.filter p) :=
  ⟨fun x hx => h.bd x (List.mem_filter.mp hx).1, h.asc.filter p⟩
theorem GoodM.nil (n : Nat) : GoodM n [] := ⟨fun x hx => by simp at hx, List.Pairwise.nil⟩
/-- No two of them are in conflict. -/
def Clear (t : List (List Int)) (m : List Int) : Prop := ∀ a ∈ m, ∀ b ∈ m, ¬ 0 < tz t a b
theorem tz_bd {t : List (List Int)} (hc : GoodC t) {a b : Int} (ha : 0 ≤ a ∧ a < (t.length : Int)) (hb : 0 ≤ b ∧ b < (t.length : Int)) : 0 ≤ tz t a b ∧ tz t a b ≤ 5 :=
  hc.bd _ _ (by omega) (by omega)
theorem tz_sy {t : List (List Int)} (hc : GoodC t) {a b : Int} (ha : 0 ≤ a ∧ a < (t.length : Int)) (hb : 0 ≤ b ∧ b < (t.length : Int)) : 0 < tz t a b ↔ 0 < tz t b a :=
  hc.sy _ _ (by omega) (by omega)
theorem tz_di {t : List (List Int)} (hc : GoodC t) {a : Int} (ha : 0 ≤ a ∧ a < (t.length : Int)) : tz t a a = 0 :=
  hc.di _ (by omega)

/-! ### histories -/
structure GoodW (t h : List (List Int)) : Prop where
  c : GoodC t
  l : h.length ≤ 150
  m : ∀ k, k < h.length → GoodM t.length (gm h k)
noncomputable def validW (t h : List (List Int)) : Bool := dec (GoodW t h)
def Bad (t h : List (List Int)) (k : Nat) : Prop :=
  ∃ b ∈ gm h k, (∃ a ∈ gm h k, 0 < tz t a b) ∨ ∃ j, j < k ∧ ∃ a ∈ gm h j, (k : Int) - j ≤ tz t a b
noncomputable def badB (t h : List (List Int)) (k : Nat) : Bool := dec (Bad t h k)
/-- The first index below n at which p holds. -/
def fstN (p : Nat → Bool) : Nat → Int
  | 0 => -1
  | n + 1 => if fstN p n = -1 then (if p n then (n : Int) else -1) else fstN p n
theorem fstN_bd (p : Nat → Bool) (n : Nat) : -1 ≤ fstN p n ∧ fstN p n < (n : Int) := by
  induction n with
  | zero => simp [fstN]
  | succ n ih =>
    rw [fstN]
    split
    · split <;> omega
    · omega
theorem fstN_none {p : Nat → Bool} {n : Nat} : fstN p n = -1 ↔ ∀ k, k < n → p k = false := by
  induction n with
  | zero => simp [fstN]
  | succ n ih =>
    rw [fstN]
    constructor
    · intro h k hk
      split at h
      · rename_i h1
        split at h
        · omega
        · rename_i h2
          by_cases e : k = n
          · subst e; simpa using h2
          · exact ih.mp h1 k (by omega)
      · rename_i h1; exact absurd h h1
    · intro h
      rw [if_pos (ih.mpr fun k hk => h k (by omega)), if_neg (by rw [h n (by omega)]; decide)]
theorem fstN_at {p : Nat → Bool} {n k : Nat} (hk : k < n) (hp : p k = true) (hn : ∀ i, i < k → p i = false) : fstN p n = k := by
  induction n with
  | zero => omega
  | succ n ih =>
    rw [fstN]
    by_cases e : k = n
    · subst e
      rw [if_pos (fstN_none.mpr hn), if_pos hp]
    · rw [ih (by omega), if_neg (by omega)]
theorem fstN_spec {p : Nat → Bool} {n : Nat} {k : Nat} (h : fstN p n = k) : k < n ∧ p k = true ∧ ∀ i, i < k → p i = false := by
  induction n with
  | zero => simp [fstN] at h
  | succ n ih =>
    rw [fstN] at h
    split at h
    · rename_i h1
      split at h
      · rename_i h2
        obtain rfl : n = k := by omega
        exact ⟨by omega, h2, fun i hi => fstN_none.mp h1 i hi⟩
      · omega
    · obtain ⟨h1, h2, h3⟩ := ih h
      exact ⟨by omega, h2, h3⟩
theorem fstN_congr {p q : Nat → Bool} {n : Nat} (h : ∀ i, i < n → p i = q i) : fstN p n = fstN q n := by
  induction n with
  | zero => rfl
  | succ n ih => rw [fstN, fstN, ih fun i hi => h i (by omega), h n (by omega)]

noncomputable def faultF (t h : List (List Int)) : Int := if validW t h then fstN (badB t h) h.length else -2
theorem faultF_no {t h : List (List Int)} (hv : validW t h = false) : faultF t h = -2 := by simp [faultF, hv]
theorem faultF_yes {t h : List (List Int)} (hg : GoodW t h) : faultF t h = fstN (badB t h) h.length := by rw [faultF, if_pos (show validW t h = true from dec_iff.mpr hg)]
theorem faultF_none {t h : List (List Int)} (hg : GoodW t h) (hb : ∀ k, k < h.length → ¬ Bad t h k) : faultF t h = -1 := by
  rw [faultF_yes hg]
  exact fstN_none.mpr fun k hk => dec_not.mpr (hb k hk)
theorem faultF_first {t h : List (List Int)} (hg : GoodW t h) {k : Nat} (hk : k < h.length) (hb : Bad t h k) (hn : ∀ j, j < k → ¬ Bad t h j) : faultF t h = k := by
  rw [faultF_yes hg]
  exact fstN_at hk (dec_iff.mpr hb) fun i hi => dec_not.mpr (hn i hi)
theorem faultF_bd {t h : List (List Int)} : -2 ≤ faultF t h ∧ faultF t h < (h.length : Int) := by
  rw [faultF]
  split
  · have := fstN_bd (badB t h) h.length; omega
  · omega
theorem faultF_good {t h : List (List Int)} (hn : faultF t h ≠ -2) : GoodW t h := by
  cases hv : validW t h with
  | false => exact absurd (faultF_no hv) hn
  | true => exact dec_iff.mp hv
theorem faultF_spec {t h : List (List Int)} {k : Nat} (hf : faultF t h = k) : GoodW t h ∧ k < h.length ∧ Bad t h k ∧ ∀ j, j < k → ¬ Bad t h j := by
  have hg := faultF_good (t := t) (h := h) (by omega)
  rw [faultF_yes hg] at hf
  obtain ⟨h1, h2, h3⟩ := fstN_spec hf
  exact ⟨hg, h1, dec_iff.mp h2, fun j hj => dec_not.mp (h3 j hj)⟩
theorem faultF_m1 {t h : List (List Int)} (hf : faultF t h = -1) : GoodW t h ∧ ∀ k, k < h.length → ¬ Bad t h k := by
  have hg := faultF_good (t := t) (h := h) (by omega)
  rw [faultF_yes hg] at hf
  exact ⟨hg, fun k hk => dec_not.mp (fstN_none.mp hf k hk)⟩
theorem Bad.sub {t h g : List (List Int)} {k : Nat} (hs : ∀ j, j ≤ k → ∀ x ∈ gm g j, x ∈ gm h j) (hb : Bad t g k) : Bad t h k := by
  obtain ⟨b, hb, hor⟩ := hb
  refine ⟨b, hs k (Nat.le_refl _) b hb, ?_⟩
  rcases hor with ⟨a, ha, h1⟩ | ⟨j, hj, a, ha, h1⟩
  · exact .inl ⟨a, hs k (Nat.le_refl _) a ha, h1⟩
  · exact .inr ⟨j, hj, a, hs j (by omega) a ha, h1⟩
theorem gm_take {h : List (List Int)} {n k : Nat} (hk : k < n) : gm (h.take n) k = gm h k := by
  simp [gm, hk]
theorem GoodW.take {t h : List (List Int)} (hg : GoodW t h) (n : Nat) : GoodW t (h.take n) := by
  refine ⟨hg.c, by have := hg.l; simp; omega, fun k hk => ?_⟩
  simp only [List.length_take] at hk
  rw [gm_take (by omega)]
  exact hg.m k (by omega)
theorem bad_take {t h : List (List Int)} {n k : Nat} (hk : k < n) : Bad t (h.take n) k ↔ Bad t h k :=
  ⟨Bad.sub fun j hj x hx => by rwa [gm_take (by omega)] at hx, Bad.sub fun j hj x hx => by rwa [gm_take (by omega)]⟩
/-- The history before the first fault has none. -/
theorem fault_take {t h : List (List Int)} {k : Nat} (hf : faultF t h = k) : faultF t (h.take k) = -1 ∧ faultF t (h.take (k + 1)) = k := by
  obtain ⟨hg, h1, h2, h3⟩ := faultF_spec hf
  refine ⟨faultF_none (hg.take k) fun j hj => ?_, faultF_first (hg.take _) (by simp; omega) ((bad_take (by omega)).mpr h2) fun j hj => ?_⟩
  · simp only [List.length_take] at hj
    rw [bad_take (by omega)]
    exact h3 j (by omega)
  · rw [bad_take (by omega)]
    exact h3 j hj
theorem gm_set {h : List (List Int)} {j : Nat} {v : List Int} (hj : j < h.length) (k : Nat) : gm (h.set j v) k = if k = j then v else gm h k := by
  by_cases e : k = j
  · subst e; simp [gm, hj]
  · simp [gm, e, Ne.symm e]
theorem gm_rep {n : Nat} {v : List Int} {k : Nat} (hk : k < n) : gm (List.replicate n v) k = v := by simp [gm, hk]
/-- Without green there is no fault; without one second's there is no earlier fault. -/
theorem fault_red {t h : List (List Int)} (hg : GoodW t h) : faultF t (List.replicate h.length []) = -1 := by
  refine faultF_none ⟨hg.c, by simpa using hg.l, fun k hk => ?_⟩ fun k hk => ?_
  · rw [gm_rep (by simpa using hk)]; exact GoodM.nil _
  · rintro ⟨b, hb, _⟩
    rw [gm_rep (by simpa using hk)] at hb
    simp at hb
theorem fault_less {t h : List (List Int)} (hg : GoodW t h) {j : Nat} (hj : j < h.length) :
    faultF t (h.set j []) = -1 ∨ (0 ≤ faultF t h ∧ faultF t h ≤ faultF t (h.set j [])) := by
  have hg2 : GoodW t (h.set j []) := by
    refine ⟨hg.c, by simpa using hg.l, fun k hk => ?_⟩
    rw [gm_set hj]
    split
    · exact GoodM.nil _
    · exact hg.m k (by simpa using hk)
  have hb := faultF_yes hg2 ▸ fstN_bd (badB t (h.set j [])) (h.set j []).length
  by_cases hm : faultF t (h.set j []) = -1
  · exact .inl hm
  right
  obtain ⟨k, hk⟩ := Int.eq_ofNat_of_zero_le (show 0 ≤ faultF t (h.set j []) by omega)
  obtain ⟨_, k1, k2, _⟩ := faultF_spec hk
  have hbad : Bad t h k := Bad.sub (fun i hi x hx => by
    rw [gm_set hj] at hx
    split at hx
    · simp at hx
    · exact hx) k2
  have hkl : k < h.length := by simpa using k1
  have hb2 := faultF_yes hg ▸ fstN_bd (badB t h) h.length
  have hn : faultF t h ≠ -1 := fun e => (faultF_m1 e).2 k hkl hbad
  obtain ⟨n, hn2⟩ := Int.eq_ofNat_of_zero_le (show 0 ≤ faultF t h by omega)
  obtain ⟨_, _, _, n3⟩ := faultF_spec hn2
  have : n ≤ k := by
    rcases Nat.lt_or_ge k n with h1 | h1
    · exact absurd hbad (n3 k h1)
    · exact h1
  omega

/-! ### the monitor -/
noncomputable def guardL (h : List (List Int)) (f : Int) : List (List Int) := mapN h.length fun k => if f < 0 ∨ (k : Int) < f then gm h k else []
noncomputable def guardF (t h : List (List Int)) : List (List Int) := if faultF t h = -2 then [] else guardL h (faultF t h)
theorem guardL_length (h : List (List Int)) (f : Int) : (guardL h f).length = h.length := mapN_length _ _
theorem guardL_m1 (h : List (List Int)) : guardL h (-1) = h := by
  rw [guardL, mapN_congr (g := gm h) fun k _ => by rw [if_pos (by omega)]]
  exact mapN_gm h
theorem guardF_length {t h : List (List Int)} : (guardF t h).length = if faultF t h = -2 then 0 else h.length := by
  unfold guardF
  split
  · rfl
  · exact guardL_length _ _
theorem guard_good {t h : List (List Int)} (hg : GoodW t h) : faultF t (guardF t h) = -1 := by
  have hb := faultF_yes hg ▸ fstN_bd (badB t h) h.length
  rw [guardF, if_neg (by omega)]
  by_cases hm : faultF t h = -1
  · rw [hm, guardL_m1]; exact hm
  obtain ⟨f, hf⟩ := Int.eq_ofNat_of_zero_le (show 0 ≤ faultF t h by omega)
  obtain ⟨_, f1, f2, f3⟩ := faultF_spec hf
  rw [hf]
  refine faultF_none ⟨hg.c, by rw [guardL_length]; exact hg.l, fun k hk => ?_⟩ fun k hk hbad => ?_
  · rw [guardL_length] at hk
    rw [guardL, gm_mapN hk]
    split
    · exact hg.m k hk
    · exact GoodM.nil _
  · rw [guardL_length] at hk
    by_cases hkf : k < f
    · refine f3 k hkf (hbad.sub fun j hj x hx => ?_)
      rw [guardL, gm_mapN (by omega)] at hx
      split at hx
      · exact hx
      · simp at hx
    · obtain ⟨b, hb, _⟩ := hbad
      rw [guardL, gm_mapN hk, if_neg (by omega)] at hb
      simp at hb
theorem guard_same {t h : List (List Int)} (hf : faultF t h = -1) : guardF t h = h := by
  rw [guardF, if_neg (by omega), hf, guardL_m1]

/-! ### the watch of the program: the last second of each movement -/
def laW (h : List (List Int)) (a : Nat) : Nat → Int
  | 0 => -1
  | k + 1 => if (a : Int) ∈ gm h k then (k : Int) else laW h a k
theorem laW_bd (h : List (List Int)) (a k : Nat) : -1 ≤ laW h a k ∧ laW h a k < (k : Int) := by
  induction k with
  | zero => simp [laW]
  | succ k ih => rw [laW]; split <;> omega
theorem laW_le {h : List (List Int)} {a k j : Nat} (hj : j < k) (ha : (a : Int) ∈ gm h j) : (j : Int) ≤ laW h a k := by
  induction k with
  | zero => omega
  | succ k ih =>
    rw [laW]
    split
    · omega
    · rename_i hn
      by_cases e : j = k
      · subst e; exact absurd ha hn
      · exact ih (by omega)
theorem laW_is {h : List (List Int)} {a k j : Nat} (hl : laW h a k = j) : j < k ∧ (a : Int) ∈ gm h j := by
  induction k with
  | zero => simp [laW] at hl
  | succ k ih =>
    rw [laW] at hl
    split at hl
    · rename_i ha
      obtain rfl : k = j := by omega
      exact ⟨by omega, ha⟩
    · obtain ⟨h1, h2⟩ := ih hl
      exact ⟨by omega, h2⟩
/-- Early, as the program reckons it. -/
def Early (t h : List (List Int)) (k : Nat) (b : Int) : Prop := ∃ a : Nat, a < t.length ∧ 0 ≤ laW h a k ∧ (k : Int) - laW h a k - 1 < tz t a b
theorem early_iff {t h : List (List Int)} (hg : GoodW t h) {k : Nat} (hk : k < h.length) {b : Int} :
    (∃ j, j < k ∧ ∃ a ∈ gm h j, (k : Int) - j ≤ tz t a b) ↔ Early t h k b := by
  constructor
  · rintro ⟨j, hj, a, ha, h1⟩
    have hb := (hg.m j (by omega)).bd a ha
    obtain ⟨n, rfl⟩ := Int.eq_ofNat_of_zero_le hb.1
    have h2 := laW_le hj ha
    exact ⟨n, by omega, by omega, by omega⟩
  · rintro ⟨a, ha, h1, h2⟩
    obtain ⟨j, hj⟩ := Int.eq_ofNat_of_zero_le h1
    obtain ⟨h3, h4⟩ := laW_is hj
    exact ⟨j, h3, a, h4, by omega⟩
theorem bad_iff {t h : List (List Int)} (hg : GoodW t h) {k : Nat} (hk : k < h.length) :
    Bad t h k ↔ ∃ b ∈ gm h k, (∃ a ∈ gm h k, 0 < tz t a b) ∨ Early t h k b := by
  unfold Bad
  constructor
  · rintro ⟨b, hb, h1 | h1⟩
    · exact ⟨b, hb, .inl h1⟩
    · exact ⟨b, hb, .inr ((early_iff hg hk).mp h1)⟩
  · rintro ⟨b, hb, h1 | h1⟩
    · exact ⟨b, hb, .inl h1⟩
    · exact ⟨b, hb, .inr ((early_iff hg hk).mpr h1)⟩
/-- Early, as the reference reckons it. -/
theorem early_back {t h : List (List Int)} (hg : GoodW t h) {k : Nat} (hk : k < h.length) {b : Int} (hb : 0 ≤ b ∧ b < (t.length : Int)) :
    (∃ j, j < k ∧ ∃ a ∈ gm h j, (k : Int) - j ≤ tz t a b) ↔ ∃ back : Nat, 1 ≤ back ∧ back ≤ k ∧ back ≤ 5 ∧ ∃ i, i < (gm h (k - back)).length ∧ (back : Int) ≤ tz t (ga (gm h (k - back)) i) b := by
  constructor
  · rintro ⟨j, hj, a, ha, h1⟩
    have h2 := tz_bd hg.c ((hg.m j (by omega)).bd a ha) hb
    refine ⟨k - j, by omega, by omega, by omega, ?_⟩
    rw [show k - (k - j) = j by omega]
    obtain ⟨i, hi, rfl⟩ := mem_ga ha
    exact ⟨i, hi, by omega⟩
  · rintro ⟨back, h1, h2, h3, i, hi, h4⟩
    exact ⟨k - back, by omega, _, ga_mem hi, by omega⟩

/-! ### plans -/
structure Pl where
  tb : List (List Int)
  sg : List (List Int × Int)
def ph (p : Pl) (i : Nat) : List Int := (p.sg.getD i ([], 0)).1
def gr (p : Pl) (i : Nat) : Int := (p.sg.getD i ([], 0)).2
theorem sg_at {p : Pl} {i : Nat} (h : i < p.sg.length) : p.sg[i] = (ph p i, gr p i) := by simp [ph, gr, h]
/-- The time between two phases, as the program reckons it. -/
def chI (t : List (List Int)) (f g : List Int) (a : Int) : Nat → Int → Int
  | 0, c => c
  | k + 1, c => if ga g k ∈ f then chI t f g a k c else max (chI t f g a k c) (tz t a (ga g k))
def chO (t : List (List Int)) (f g : List Int) : Nat → Int
  | 0 => 0
  | i + 1 => if ga f i ∈ g then chO t f g i else chI t f g (ga f i) g.length (chO t f g i)
def chF (t : List (List Int)) (f g : List Int) : Int := chO t f g f.length
theorem chI_ge (t : List (List Int)) (f g : List Int) (a : Int) (k : Nat) (c : Int) : c ≤ chI t f g a k c := by
  induction k with
  | zero => exact Int.le_refl _
  | succ k ih => rw [chI]; split <;> omega
theorem chI_at (t : List (List Int)) (f g : List Int) (a : Int) (k : Nat) (c : Int) {j : Nat} (hj : j < k) (hn : ga g j ∉ f) : tz t a (ga g j) ≤ chI t f g a k c := by
  induction k with
  | zero => omega
  | succ k ih =>
    rw [chI]
    by_cases e : j = k
    · subst e
      rw [if_neg hn]
      omega
    · have := ih (by omega)
      split <;> omega
theorem chI_le (t : List (List Int)) (f g : List Int) (a : Int) (k : Nat) (c m : Int) (hc : c ≤ m) (h : ∀ j, j < k → tz t a (ga g j) ≤ m) : chI t f g a k c ≤ m := by
  induction k with
  | zero => exact hc
  | succ k ih =>
    have h1 := ih fun j hj => h j (by omega)
    have h2 := h k (by omega)
    rw [chI]
    split <;> omega
theorem chO_nonneg (t : List (List Int)) (f g : List Int) (i : Nat) : 0 ≤ chO t f g i := by
  induction i with
  | zero => exact Int.le_refl _
  | succ i ih =>
    rw [chO]
    split
    · exact ih
    · have := chI_ge t f g (ga f i) g.length (chO t f g i); omega
theorem chO_at (t : List (List Int)) (f g : List Int) (n : Nat) {i j : Nat} (hi : i < n) (hn : ga f i ∉ g) (hj : j < g.length) (hm : ga g j ∉ f) : tz t (ga f i) (ga g j) ≤ chO t f g n := by
  induction n with
  | zero => omega
  | succ n ih =>
    rw [chO]
    by_cases e : i = n
    · subst e
      rw [if_neg hn]
      exact chI_at _ _ _ _ _ _ hj hm
    · have h1 := ih (by omega)
      split
      · exact h1
      · have := chI_ge t f g (ga f n) g.length (chO t f g n); omega
theorem chO_le (t : List (List Int)) (f g : List Int) (n : Nat) (m : Int) (hm : 0 ≤ m) (h : ∀ i j, i < n → j < g.length → tz t (ga f i) (ga g j) ≤ m) : chO t f g n ≤ m := by
  induction n with
  | zero => exact hm
  | succ n ih =>
    have h1 := ih fun i j hi hj => h i j (by omega) hj
    rw [chO]
    split
    · exact h1
    · exact chI_le _ _ _ _ _ _ _ h1 fun j hj => h n j (by omega) hj
theorem chF_at {t : List (List Int)} {f g : List Int} {a b : Int} (ha : a ∈ f) (han : a ∉ g) (hb : b ∈ g) (hbn : b ∉ f) : tz t a b ≤ chF t f g := by
  obtain ⟨i, hi, rfl⟩ := mem_ga ha
  obtain ⟨j, hj, rfl⟩ := mem_ga hb
  exact chO_at _ _ _ _ hi han hj hbn
theorem chO_bd {t : List (List Int)} (hc : GoodC t) {f g : List Int} (hf : GoodM t.length f) (hg : GoodM t.length g) (n : Nat) (hn : n ≤ f.length) : 0 ≤ chO t f g n ∧ chO t f g n ≤ 5 :=
  ⟨chO_nonneg _ _ _ _, chO_le _ _ _ _ _ (by omega) fun i j hi hj => (tz_bd hc (hf.get (by omega)) (hg.get hj)).2⟩
theorem chI_bd {t : List (List Int)} (hc : GoodC t) {f g : List Int} (hg : GoodM t.length g) {a : Int} (ha : 0 ≤ a ∧ a < (t.length : Int)) {c : Int} (h0 : 0 ≤ c ∧ c ≤ 5) (k : Nat) (hk : k ≤ g.length) : 0 ≤ chI t f g a k c ∧ chI t f g a k c ≤ 5 :=
  ⟨by have := chI_ge t f g a k c; omega, chI_le _ _ _ _ _ _ _ h0.2 fun j hj => (tz_bd hc ha (hg.get (by omega))).2⟩

structure GoodP (p : Pl) : Prop where
  c : GoodC p.tb
  s1 : 1 ≤ p.sg.length
  s2 : p.sg.length ≤ 5
  m : ∀ i, i < p.sg.length → GoodM p.tb.length (ph p i)
  cl : ∀ i, i < p.sg.length → Clear p.tb (ph p i)
  g : ∀ i, i < p.sg.length → 5 ≤ gr p i ∧ gr p i ≤ 40
noncomputable def validP (p : Pl) : Bool := dec (GoodP p)
def nx (p : Pl) (i : Nat) : Nat := (i + 1) % p.sg.length
def gapP (p : Pl) (i : Nat) : Int := chF p.tb (ph p i) (ph p (nx p i))
def bg (p : Pl) : Nat → Int
  | 0 => 0
  | i + 1 => bg p i + (gr p i + gapP p i)
def cyc (p : Pl) : Int := bg p p.sg.length
theorem nx_lt {p : Pl} (h : GoodP p) (i : Nat) : nx p i < p.sg.length := Nat.mod_lt _ h.s1
theorem gap_bd {p : Pl} (h : GoodP p) {i : Nat} (hi : i < p.sg.length) : 0 ≤ gapP p i ∧ gapP p i ≤ 5 :=
  chO_bd h.c (h.m i hi) (h.m _ (nx_lt h i)) _ (Nat.le_refl _)
theorem bg_step {p : Pl} (h : GoodP p) {i : Nat} (hi : i < p.sg.length) : bg p i + 5 ≤ bg p (i + 1) ∧ bg p (i + 1) ≤ bg p i + 45 := by
  have h1 := gap_bd h hi
  have h2 := h.g i hi
  rw [bg]
  omega
theorem bg_bd {p : Pl} (h : GoodP p) (i : Nat) (hi : i ≤ p.sg.length) : 5 * (i : Int) ≤ bg p i ∧ bg p i ≤ 45 * (i : Int) := by
  induction i with
  | zero => simp [bg]
  | succ i ih =>
    have h1 := ih (by omega)
    have h2 := bg_step h (i := i) (by omega)
    omega
theorem bg_mono {p : Pl} (h : GoodP p) {i j : Nat} (hij : i < j) (hj : j ≤ p.sg.length) : bg p i + 5 ≤ bg p j := by
  induction j with
  | zero => omega
  | succ j ih =>
    have h2 := bg_step h (i := j) (by omega)
    by_cases e : i = j
    · subst e; omega
    · have := ih (by omega) (by omega)
      omega
theorem cyc_bd {p : Pl} (h : GoodP p) : 5 ≤ cyc p ∧ cyc p ≤ 225 := by
  have h1 := bg_bd h p.sg.length (Nat.le_refl _)
  have := h.s1
  have := h.s2
  unfold cyc
  omega
/-- The stage at a second of the cycle. -/
def stU (p : Pl) (s : Int) : Nat → Nat
  | 0 => 0
  | k + 1 => if bg p k ≤ s then k else stU p s k
def stg (p : Pl) (s : Int) : Nat := stU p s p.sg.length
theorem stU_spec {p : Pl} {s : Int} {k : Nat} (hk : 0 < k) (hs : 0 ≤ s) : stU p s k < k ∧ bg p (stU p s k) ≤ s ∧ ∀ i, stU p s k < i → i < k → s < bg p i := by
  induction k with
  | zero => omega
  | succ k ih =>
    rw [stU]
    split
    · rename_i h
      exact ⟨by omega, h, fun i h1 h2 => by omega⟩
    · rename_i h
      have hk0 : 0 < k := by
        rcases Nat.eq_zero_or_pos k with e | e
        · subst e; simp [bg] at h; omega
        · exact e
      obtain ⟨h1, h2, h3⟩ := ih hk0
      refine ⟨by omega, h2, fun i h4 h5 => ?_⟩
      by_cases e : i = k
      · subst e; omega
      · exact h3 i h4 (by omega)
theorem stg_spec {p : Pl} (h : GoodP p) {s : Int} (h0 : 0 ≤ s) (h1 : s < cyc p) : stg p s < p.sg.length ∧ bg p (stg p s) ≤ s ∧ s < bg p (stg p s + 1) := by
  obtain ⟨h2, h3, h4⟩ := stU_spec (p := p) (s := s) (k := p.sg.length) h.s1 h0
  refine ⟨h2, h3, ?_⟩
  by_cases e : stg p s + 1 = p.sg.length
  · rw [e]; exact h1
  · exact h4 _ (by unfold stg; omega) (by unfold stg at *; omega)
theorem stg_uniq {p : Pl} (h : GoodP p) {s : Int} (h0 : 0 ≤ s) (h1 : s < cyc p) {i : Nat} (hi : i < p.sg.length) (h2 : bg p i ≤ s) (h3 : s < bg p (i + 1)) : stg p s = i := by
  obtain ⟨k1, k2, k3⟩ := stg_spec h h0 h1
  rcases Nat.lt_trichotomy (stg p s) i with hl | hl | hl
  · have : bg p (stg p s + 1) ≤ bg p i := by
      by_cases e : stg p s + 1 = i
      · rw [e]; omega
      · have := bg_mono h (show stg p s + 1 < i by omega) (by omega); omega
    omega
  · exact hl
  · have : bg p (i + 1) ≤ bg p (stg p s) := by
      by_cases e : i + 1 = stg p s
      · rw [e]; omega
      · have := bg_mono h (show i + 1 < stg p s by omega) (by omega); omega
    omega
def keepL (f g : List Int) : List Int := f.filter fun x => decide (x ∈ g)
def grnI (p : Pl) (i : Nat) (o : Int) : List Int := if o < gr p i then ph p i else keepL (ph p i) (ph p (nx p i))
def grnP (p : Pl) (s : Int) : List Int := grnI p (stg p s) (s - bg p (stg p s))
theorem grnI_sub {p : Pl} {i : Nat} {o : Int} {x : Int} (h : x ∈ grnI p i o) : x ∈ ph p i := by
  unfold grnI at h
  split at h
  · exact h
  · exact (List.mem_filter.mp h).1
theorem grnI_kept {p : Pl} {i : Nat} {o : Int} {x : Int} (h : x ∈ grnI p i o) (hn : x ∉ ph p (nx p i)) : o < gr p i := by
  unfold grnI at h
  split at h
  · assumption
  · have := (List.mem_filter.mp h).2
    simp at this
    exact absurd this hn
theorem grnI_good {p : Pl} (h : GoodP p) {i : Nat} (hi : i < p.sg.length) (o : Int) : GoodM p.tb.length (grnI p i o) := by
  unfold grnI
  split
  · exact h.m i hi
  · exact (h.m i hi).filter _
theorem grnP_good {p : Pl} (h : GoodP p) {s : Int} (h0 : 0 ≤ s) (h1 : s < cyc p) : GoodM p.tb.length (grnP p s) :=
  grnI_good h (stg_spec h h0 h1).1 _

noncomputable def grnAt (p : Pl) (s : Int) : List Int := if validP p && inB s 0 9999 then grnP p (s % cyc p) else []
def spanB (f c : Int) : Bool := inB c 0 150 && (decide (c = 0) || (decide (0 ≤ f) && decide (f ≤ 10000 - c)))
noncomputable def planL (p : Pl) (f : Int) (n : Nat) : List (List Int) := mapN n fun (i : Nat) => grnP p ((f + (i : Int)) % cyc p)
noncomputable def planF (p : Pl) (f c : Int) : List (List Int) := if validP p && spanB f c then planL p f c.toNat else []
theorem planL_length (p : Pl) (f : Int) (n : Nat) : (planL p f n).length = n := mapN_length _ _
theorem span_iff {f c : Int} : spanB f c = true ↔ (0 ≤ c ∧ c ≤ 150) ∧ (c = 0 ∨ 0 ≤ f ∧ f ≤ 10000 - c) := by
  simp [spanB, inB]
theorem mod_cyc {p : Pl} (h : GoodP p) (x : Int) : 0 ≤ x % cyc p ∧ x % cyc p < cyc p := by
  have := cyc_bd h
  exact ⟨Int.emod_nonneg _ (by omega), Int.emod_lt_of_pos _ (by omega)⟩
theorem same_phase {p : Pl} (h : GoodP p) {i : Nat} (hi : i < p.sg.length) {a b : Int} (ha : a ∈ ph p i) (hb : b ∈ ph p i) : tz p.tb a b ≤ 0 := by
  have := h.cl i hi a ha b hb
  omega
/-- Behind a stage its movements have been red for as long as the next ones need. -/
theorem next_phase {p : Pl} (h : GoodP p) {i : Nat} (hi : i < p.sg.length) {a b : Int} {o d : Int} (ha : a ∈ grnI p i o) (hb : b ∈ ph p (nx p i)) (hd : 1 ≤ d) (ho : gr p i + gapP p i ≤ o + d) : tz p.tb a b < d := by
  have ha1 := grnI_sub ha
  by_cases h1 : a ∈ ph p (nx p i)
  · have := same_phase h (nx_lt h i) h1 hb; omega
  by_cases h2 : b ∈ ph p i
  · have := same_phase h hi ha1 h2; omega
  have h3 := chF_at (t := p.tb) ha1 h1 hb h2
  have h4 := grnI_kept ha h1
  have h5 : chF p.tb (ph p i) (ph p (nx p i)) = gapP p i := rfl
  omega
theorem far_apart {p : Pl} (h : GoodP p) {x d : Int} (hd : 1 ≤ d) {a b : Int} (ha : a ∈ grnP p (x % cyc p)) (hb : b ∈ grnP p ((x + d) % cyc p)) : tz p.tb a b < d := by
  obtain ⟨y0, y1⟩ := mod_cyc h x
  obtain ⟨z0, z1⟩ := mod_cyc h (x + d)
  have hc := cyc_bd h
  have hab := tz_bd h.c ((grnP_good h y0 y1).bd a ha) ((grnP_good h z0 z1).bd b hb)
  by_cases hd5 : 5 < d
  · omega
  obtain ⟨i1, i2, i3⟩ := stg_spec h y0 y1
  obtain ⟨k1, k2, k3⟩ := stg_spec h z0 z1
  have hz : (x + d) % cyc p = x % cyc p + d ∨ (x + d) % cyc p = x % cyc p + d - cyc p := by
    rw [← Int.emod_add_emod x (cyc p) d]
    by_cases hlt : x % cyc p + d < cyc p
    · left; exact Int.emod_eq_of_lt (by omega) hlt
    · right
      rw [show x % cyc p + d = (x % cyc p + d - cyc p) + cyc p by omega, Int.add_emod_right]
      rw [Int.emod_eq_of_lt (by omega) (by omega)]
      omega
  generalize hy : x % cyc p = y at *
  generalize hzz : (x + d) % cyc p = z at *
  clear hy hzz
  unfold grnP at ha hb
  have hb1 := grnI_sub hb
  rcases hz with rfl | rfl
  · by_cases hge : bg p (stg p (y + d)) ≤ y
    · have e := stg_uniq h y0 y1 k1 hge (by omega)
      rw [e] at ha
      have := same_phase h k1 (grnI_sub ha) hb1
      omega
    · obtain ⟨j, hj⟩ : ∃ j, stg p (y + d) = j + 1 := by
        rcases hs : stg p (y + d) with _ | j
        · rw [hs] at hge; simp [bg] at hge; omega
        · exact ⟨j, rfl⟩
      rw [hj] at hge k1 k2 k3 hb1
      have hst := bg_step h (i := j) (by omega)
      have e := stg_uniq h y0 y1 (i := j) (by omega) (by omega) (by omega)
      rw [e] at ha
      have hn : nx p j = j + 1 := Nat.mod_eq_of_lt k1
      rw [← hn] at hb1
      refine next_phase h (by omega) ha hb1 hd ?_
      have : bg p (j + 1) = bg p j + (gr p j + gapP p j) := rfl
      omega
  · have hs1 := h.s1
    have hlast := bg_step h (i := p.sg.length - 1) (by omega)
    rw [show p.sg.length - 1 + 1 = p.sg.length by omega] at hlast
    have hcy : bg p p.sg.length = cyc p := rfl
    have e := stg_uniq h y0 y1 (i := p.sg.length - 1) (by omega) (by omega) (by rw [show p.sg.length - 1 + 1 = p.sg.length by omega, hcy]; exact y1)
    have h01 := bg_step h (i := 0) (by omega)
    have e0 := stg_uniq h z0 z1 (i := 0) (by omega) (by simp [bg]; omega) (by have : bg p 0 = 0 := rfl; omega)
    rw [e] at ha
    rw [e0] at hb1
    have hn : nx p (p.sg.length - 1) = 0 := by unfold nx; rw [show p.sg.length - 1 + 1 = p.sg.length by omega, Nat.mod_self]
    rw [← hn] at hb1
    refine next_phase h (by omega) ha hb1 hd ?_
    have : bg p (p.sg.length - 1 + 1) = bg p (p.sg.length - 1) + (gr p (p.sg.length - 1) + gapP p (p.sg.length - 1)) := rfl
    rw [show p.sg.length - 1 + 1 = p.sg.length by omega] at this
    omega
/-- Plans have no faults. -/
theorem plan_good {p : Pl} (h : GoodP p) {f : Int} {n : Nat} (hn : n ≤ 150) : GoodW p.tb (planL p f n) := by
  refine ⟨h.c, by rw [planL_length]; exact hn, fun k hk => ?_⟩
  rw [planL_length] at hk
  rw [planL, gm_mapN hk]
  exact grnP_good h (mod_cyc h _).1 (mod_cyc h _).2
theorem plan_fault {p : Pl} (h : GoodP p) {f : Int} {n : Nat} (hn : n ≤ 150) : faultF p.tb (planL p f n) = -1 := by
  refine faultF_none (plan_good h hn) fun k hk hbad => ?_
  rw [planL_length] at hk
  obtain ⟨b, hb, hor⟩ := hbad
  rw [planL, gm_mapN hk] at hb
  rcases hor with ⟨a, ha, h1⟩ | ⟨j, hj, a, ha, h1⟩
  · rw [planL, gm_mapN hk] at ha
    obtain ⟨z0, z1⟩ := mod_cyc h (f + (k : Int))
    have := same_phase h (stg_spec h z0 z1).1 (grnI_sub ha) (grnI_sub hb)
    omega
  · rw [planL, gm_mapN (by omega)] at ha
    have := far_apart h (x := f + (j : Int)) (d := (k : Int) - j) (by omega) ha (by rwa [show f + (j : Int) + ((k : Int) - j) = f + (k : Int) by omega])
    omega
theorem planF_fault {p : Pl} {f c : Int} (hl : (planF p f c).length ≠ 0) : faultF p.tb (planF p f c) = -1 := by
  unfold planF at *
  split
  · rename_i h
    simp only [Bool.and_eq_true] at h
    have h2 := span_iff.mp h.2
    exact plan_fault (dec_iff.mp h.1) (by omega)
  · rename_i h
    rw [if_neg h] at hl
    exact absurd rfl hl
theorem planF_parts {p : Pl} {f c : Int} (hl : (planF p f c).length ≠ 0) : GoodP p ∧ 0 < c ∧ c ≤ 150 ∧ 0 ≤ f ∧ f ≤ 10000 - c ∧ planF p f c = planL p f c.toNat := by
  unfold planF at *
  split
  · rename_i h
    rw [if_pos h, planL_length] at hl
    simp only [Bool.and_eq_true] at h
    have h2 := span_iff.mp h.2
    refine ⟨dec_iff.mp h.1, by omega, by omega, ?_, ?_, rfl⟩
    · rcases h2.2 with h3 | h3
      · omega
      · exact h3.1
    · rcases h2.2 with h3 | h3
      · omega
      · exact h3.2
  · rename_i h
    rw [if_neg h] at hl
    exact absurd rfl hl
theorem plan_take (p : Pl) (f : Int) {n k : Nat} (hk : k ≤ n) : planL p f k = (planL p f n).take k := by
  apply List.ext_getElem
  · rw [List.length_take, planL_length, planL_length]; omega
  · intro i h1 h2
    rw [planL_length] at h1
    rw [List.getElem_take]
    simp only [planL]
    rw [mapN_get, mapN_get]
end Go.Proofs.Ytcckipckgnkieaa
