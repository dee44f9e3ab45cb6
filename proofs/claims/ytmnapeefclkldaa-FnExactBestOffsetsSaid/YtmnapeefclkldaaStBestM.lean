/-
  The best offsets of a street.
-/
import Derived.Test.YtmnapeefclkldaaStWave
import Derived.Test.YtmnapeefclkldaaStTwo
namespace Go.Proofs.Ytmnapeefclkldaa
open Go.RowKit
set_option linter.unusedVariables false

def powN (c : Int) : Nat → Int
  | 0 => 1
  | k + 1 => powN c k * c
theorem powN_bd {c : Int} (h1 : 1 ≤ c) (h2 : c ≤ 30) {k : Nat} (hk : k ≤ 3) : 1 ≤ powN c k ∧ powN c k ≤ 27000 := by
  have step : ∀ (p m : Int), 1 ≤ p → p ≤ m → 1 ≤ p * c ∧ p * c ≤ m * 30 := fun p m hp hm => by
    have a := Int.mul_le_mul hp h1 (by omega) (by omega)
    have b := Int.mul_le_mul hm h2 (by omega) (by omega)
    omega
  have e0 : powN c 0 = 1 := rfl
  have e1 := step (powN c 0) 1 (by omega) (by omega)
  have e2 := step (powN c 1) 30 e1.1 e1.2
  have e3 := step (powN c 2) 900 e2.1 e2.2
  rcases k with _ | _ | _ | _ | k
  · omega
  · exact ⟨e1.1, Int.le_trans e1.2 (by decide)⟩
  · exact ⟨e2.1, Int.le_trans e2.2 (by decide)⟩
  · exact ⟨e3.1, Int.le_trans e3.2 (by decide)⟩
  · omega
/-- What is left of a number behind j digits. -/
def rst (c n : Int) : Nat → Int
  | 0 => n
  | j + 1 => rst c n j / c
theorem rst_bd {c n : Int} (hc : 1 ≤ c) (hn : 0 ≤ n) (j : Nat) : 0 ≤ rst c n j ∧ rst c n j ≤ n := by
  induction j with
  | zero => exact ⟨hn, Int.le_refl _⟩
  | succ j ih =>
    have h1 := Int.ediv_nonneg ih.1 (show 0 ≤ c by omega)
    have h2 := Int.ediv_le_self c ih.1
    exact ⟨h1, Int.le_trans h2 ih.2⟩
def digO (s : St) (n : Int) : List Int := mapN s.gr.length fun i => if i = 0 then 0 else rst s.cy n (s.gr.length - 1 - i) % s.cy
theorem digO_length (s : St) (n : Int) : (digO s n).length = s.gr.length := mapN_length _ _
theorem digO_good {s : St} (h : GoodT s) (n : Int) : GoodO s (digO s n) := by
  refine ⟨h, digO_length _ _, fun i hi => ?_⟩
  rw [digO_length] at hi
  rw [digO, ga_mapN hi]
  have c1 := h.c1
  split
  · omega
  · have h1 := Int.emod_nonneg (rst s.cy n (s.gr.length - 1 - i)) (show s.cy ≠ 0 by omega)
    have h2 := Int.emod_lt_of_pos (rst s.cy n (s.gr.length - 1 - i)) (show 0 < s.cy by omega)
    omega
/-- The offsets when the places above m are written. -/
def digP (s : St) (n : Int) (old : List Int) (m : Nat) : List Int := mapN s.gr.length fun i => if m < i then rst s.cy n (s.gr.length - 1 - i) % s.cy else ga old i
theorem digP_length (s : St) (n : Int) (old : List Int) (m : Nat) : (digP s n old m).length = s.gr.length := mapN_length _ _
theorem digP_start (s : St) (n : Int) (old : List Int) (hl : old.length = s.gr.length) : digP s n old (s.gr.length - 1) = old := by
  have : digP s n old (s.gr.length - 1) = mapN s.gr.length (ga old) := mapN_congr fun i hi => by rw [if_neg (by omega)]
  rw [this, ← hl, mapN_self]
theorem digP_end (s : St) (n : Int) (old : List Int) (h0 : ga old 0 = 0) : digP s n old 0 = digO s n := mapN_congr fun i hi => by
  by_cases e : i = 0
  · subst e; simpa using h0
  · rw [if_pos (by omega), if_neg e]
theorem digP_set (s : St) (n : Int) (old : List Int) (m : Nat) : (digP s n old (m + 1)).set (m + 1) (rst s.cy n (s.gr.length - 1 - (m + 1)) % s.cy) = digP s n old m := by
  unfold digP
  rw [mapN_set]
  refine mapN_congr fun i hi => ?_
  by_cases e : i = m + 1
  · subst e; simp
  · rw [if_neg e]
    by_cases h : m + 1 < i
    · rw [if_pos h, if_pos (by omega)]
    · rw [if_neg h, if_neg (by omega)]
/-- Digits as the reference writes them. -/
def digQ (c n : Int) (cnt m : Nat) : List Int := mapN cnt fun i => if m ≤ i then rst c n (cnt - 1 - i) % c else 0
def digs (c n : Int) (cnt : Nat) : List Int := digQ c n cnt 0
theorem digQ_length (c n : Int) (cnt m : Nat) : (digQ c n cnt m).length = cnt := mapN_length _ _
theorem digQ_start (c n : Int) (cnt : Nat) : digQ c n cnt cnt = List.replicate cnt 0 := by
  apply List.ext_getElem
  · rw [digQ_length, List.length_replicate]
  · intro i h1 h2
    rw [digQ_length] at h1
    simp only [digQ]
    rw [mapN_get, if_neg (by omega), List.getElem_replicate]
theorem digQ_set (c n : Int) (cnt m : Nat) : (digQ c n cnt (m + 1)).set m (rst c n (cnt - 1 - m) % c) = digQ c n cnt m := by
  unfold digQ
  rw [mapN_set]
  refine mapN_congr fun i hi => ?_
  by_cases e : i = m
  · subst e; simp
  · rw [if_neg e]
    by_cases h : m + 1 ≤ i
    · rw [if_pos h, if_pos (by omega)]
    · rw [if_neg h, if_neg (by omega)]
theorem digs_cons {s : St} (h : GoodT s) (n : Int) : [0] ++ digs s.cy n s.tr.length = digO s n := by
  have ht := h.tl
  apply List.ext_getElem
  · rw [digO_length, List.length_append, digs, digQ_length]; simp; omega
  · intro i h1 h2
    rw [digO_length] at h2
    simp only [digO]
    rw [mapN_get]
    cases i with
    | zero => rfl
    | succ i =>
      simp only [List.cons_append, List.nil_append, List.getElem_cons_succ, digs, digQ]
      rw [mapN_get, if_pos (Nat.zero_le _), if_neg (by omega)]
      rw [show s.tr.length - 1 - i = s.gr.length - 1 - (i + 1) by omega]
theorem digO_zero (s : St) (hc : 1 ≤ s.cy) : digO s 0 = List.replicate s.gr.length 0 := by
  have hz : ∀ j, rst s.cy 0 j = 0 := fun j => by
    induction j with
    | zero => rfl
    | succ j ih => rw [rst, ih]; simp
  apply List.ext_getElem
  · rw [digO_length, List.length_replicate]
  · intro i h1 h2
    simp only [digO]
    rw [mapN_get, List.getElem_replicate, hz]
    split <;> simp
/-- The best of the ways 0 to k. -/
def bestN (s : St) : Nat → List Int
  | 0 => digO s 0
  | k + 1 => if twoF s (bestN s k) < twoF s (digO s ((k + 1 : Nat) : Int)) then digO s ((k + 1 : Nat) : Int) else bestN s k
theorem bestN_good {s : St} (h : GoodT s) (k : Nat) : GoodO s (bestN s k) := by
  induction k with
  | zero => exact digO_good h _
  | succ k ih =>
    rw [bestN]
    split
    · exact digO_good h _
    · exact ih
def waysF (s : St) : Int := powN s.cy s.tr.length
def bestF (s : St) : List Int := if validT s && decide (waysF s ≤ 900) then bestN s (waysF s - 1).toNat else []
theorem bestF_len (s : St) : (bestF s).length ≤ 150 := by
  unfold bestF
  split
  · rename_i h
    simp only [Bool.and_eq_true] at h
    have hg := bestN_good (validT_iff.mp h.1) (waysF s - 1).toNat
    have := hg.ol
    have := hg.g.g2
    omega
  · simp

theorem power_any (c : Int) (n : Nat) (v : Int) (hv : Hid (v = powN c n)) (w : World) (h1 : 1 ≤ c) (h2 : c ≤ 30) (hn : n ≤ 3) :
    Calls Try.prog 55 #[.int .i64 c, .int .i64 n] w fun e w' => e = .returned (.int .i64 v) ∧ w = w' := by
  go_enter Try.func55, Try.ntmps55
  go_wp2_with fail
  go_loop [5, 6] (fun v5 vi => ∃ k : Nat, k ≤ n ∧ vi = .int .i64 k ∧ v5 = .int .i64 (powN c k)) (fun _ vi => n - (intOf vi).toNat)
  case atStart => exact ⟨0, Nat.zero_le _, rfl, rfl⟩
  case round =>
    obtain ⟨k, hk, rfl, rfl⟩ := hrel
    by_cases hlt : k < n
    · have hb := powN_bd h1 h2 (k := k + 1) (by omega)
      have hst := Lib.hid (show powN c (k + 1) = powN c k * c from rfl)
      rw [show powN c (k + 1) = powN c k * c from rfl] at hb
      generalize powN c k = p at *
      have hw : IntKind.i64.wrap (p * c) = p * c := IntWalk.i64_in _ (by omega)
      go_wp2_with fail
      go_round
      case rel => exact ⟨k + 1, by omega, by go_num, by rw [hst.out]⟩
      case measure => simp [intOf]; omega
    · obtain rfl : k = n := by omega
      rw [← hv.out]
      go_wp2_with fail
      go_ret
      exact ⟨rfl, rfl⟩

set_option maxHeartbeats 800000 in
theorem digs_any (c n : Int) (cnt : Nat) (w : World) (h1 : 1 ≤ c) (h2 : c ≤ 30) (hn : 0 ≤ n) (hn2 : n ≤ 30000) (hcn : cnt ≤ 3) :
    Calls Try.prog 56 #[.int .i64 n, .int .i64 c, .int .i64 cnt] w (NewS fI 3 w (digs c n cnt)) := by
  obtain ⟨i0, hi0, hz0, hz1, hz2⟩ := info_parts info_Int
  have hmk := fun W => run_make_n (P := Try.prog) 22 3 i0 (Value.int .i64 (0)) Try.underlying22 hi0 hz0 hz1 rfl .i64 .i64 cnt cnt (Nat.le_refl _) (by omega) (by omega) W
  have bA := Blk.new w 3 (Array.replicate cnt (Value.int .i64 0))
  have hA := (OwnL.of_blk (xs := List.replicate cnt (0 : Int)) (f := fI) (lo := w.heap.size) (by simpa using bA) (Nat.le_refl _) (by simp [maxLen]; omega)).o
  rw [List.length_replicate, ← digQ_start c n cnt] at hA
  have hB := (Below.refl w.heap.size w).alloc (Nat.le_refl _) (.cells (Array.replicate cnt (Value.int .i64 0)) 3)
  clear bA
  go_enter Try.func56, Try.ntmps56
  go_wp2_with fail
  clear hmk
  go_loopw [0, 8] (fun v0 vi wr => ∃ m : Nat, m ≤ cnt ∧ vi = .int .i64 ((m : Int) - 1) ∧ v0 = .int .i64 (rst c n (cnt - m)) ∧ OwnO fI wr w.heap.size 3 (some ⟨w.heap.size, 0, none⟩) cnt (digQ c n cnt m) ∧ Below w.heap.size w wr) (fun _ vi _ => (intOf vi + 1).toNat)
  case atStart => exact ⟨cnt, Nat.le_refl _, rfl, by rw [Nat.sub_self]; rfl, hA, hB⟩
  case round =>
    clear hA hB
    obtain ⟨m, hm, rfl, rfl, ho, hb⟩ := hrel
    cases m with
    | zero =>
      have h0 : ((0 : Nat) : Int) - 1 = -1 := rfl
      simp only [h0]
      go_wp2_with fail
      go_ret
      exact ⟨some ⟨w.heap.size, 0, none⟩, cnt, by rw [digs, digQ_length]; rfl, ho, hb⟩
    | succ m =>
      obtain ⟨g', o', e', hca, hfa, -⟩ := ho.at (k := m) (by rw [digQ_length]; omega)
      obtain ⟨rfl, rfl⟩ : w.heap.size = g' ∧ 0 = o' := by simpa using e'
      rw [Nat.zero_add] at hca hfa
      have hr := rst_bd (c := c) h1 hn (cnt - (m + 1))
      have Hst := Lib.hid (digQ_set c n cnt m)
      have Hrs := Lib.hid (show rst c n (cnt - m) = rst c n (cnt - (m + 1)) / c by rw [show cnt - m = cnt - (m + 1) + 1 by omega]; rfl)
      have Hrd := Lib.hid (show rst c n (cnt - 1 - m) = rst c n (cnt - (m + 1)) by rw [show cnt - 1 - m = cnt - (m + 1) by omega])
      have h5 := Lib.hid (ho.set (k := m) (x := rst c n (cnt - (m + 1)) % c) (by rw [digQ_length]; omega))
      clear e'
      generalize fI _ = z at hca
      generalize rst c n (cnt - (m + 1)) = u at *
      obtain ⟨hr0, hr1⟩ := hr
      have hq0 : 0 ≤ u / c := Int.ediv_nonneg hr0 (by omega)
      have hq1 : u / c ≤ u := Int.ediv_le_self c hr0
      simp only [pred_succ]
      go_wp2_with fail
      have h6 := h5.out
      rw [Nat.zero_add, ← Hrd.out, Hst.out] at h6
      have hb2 := hb.setCell (p := ⟨w.heap.size, m, none⟩) (Nat.le_refl _) (.int .i64 (u % c))
      go_roundw
      case rel => exact ⟨m, by omega, by go_num, by rw [Hrs.out], by rw [← Hrd.out]; exact h6, hb2⟩
      case measure => simp [intOf]
end Go.Proofs.Ytmnapeefclkldaa
