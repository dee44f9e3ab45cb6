/-
  The reference's SplitGreens.
-/
import Derived.Test.YtknddadgmbkpnaaSplSpec
namespace Go.Proofs.Ytknddadgmbkpnaa
open Go.RowKit
set_option linter.unusedVariables false

/-! ### lists by their elements -/
def mapN {α : Type} (n : Nat) (f : Nat → α) : List α := (List.range n).map f
theorem mapN_length {α : Type} (n : Nat) (f : Nat → α) : (mapN n f).length = n := by simp [mapN]
theorem mapN_get {α : Type} (n : Nat) (f : Nat → α) (k : Nat) (h : k < (mapN n f).length) : (mapN n f)[k] = f k := by simp [mapN]
theorem mapN_congr {α : Type} {n : Nat} {f g : Nat → α} (h : ∀ i, i < n → f i = g i) : mapN n f = mapN n g := by
  apply List.ext_getElem
  · rw [mapN_length, mapN_length]
  · intro i h1 h2
    rw [mapN_get, mapN_get, h i (by rwa [mapN_length] at h1)]
theorem mapN_set {α : Type} (n : Nat) (f : Nat → α) (k : Nat) (v : α) : (mapN n f).set k v = mapN n fun i => if i = k then v else f i := by
  apply List.ext_getElem
  · rw [List.length_set, mapN_length, mapN_length]
  · intro i h1 h2
    rw [mapN_get, List.getElem_set]
    by_cases e : k = i
    · rw [if_pos e, if_pos e.symm]
    · rw [if_neg e, if_neg (fun h => e h.symm), mapN_get]
theorem mapN_succ {α : Type} (n : Nat) (f : Nat → α) : mapN (n + 1) f = mapN n f ++ [f n] := by simp [mapN, List.range_succ]
theorem mapN_self (le : List Int) : mapN le.length (ga le) = le := by
  apply List.ext_getElem
  · rw [mapN_length]
  · intro i h1 h2
    rw [mapN_get, ga_at h2]
theorem ga_mapN {n : Nat} {f : Nat → Int} {i : Nat} (h : i < n) : ga (mapN n f) i = f i := by
  rw [← ga_at (by rwa [mapN_length]), mapN_get]
theorem Srt.congr {r r' : Nat → Int} {n : Nat} {l : List Nat} (h : Srt r n l) (he : ∀ i, i < n → r i = r' i) : Srt r' n l := by
  refine ⟨h.1, h.2.imp_of_mem fun {a b} ha hb hab => ?_⟩
  have h1 := he a (h.mem.mp ha)
  have h2 := he b (h.mem.mp hb)
  simp only [bef] at hab ⊢
  omega

def freeS (total : Int) (le : List Int) : Int := total - sumL le
def leftS (total : Int) (de le : List Int) : Int := freeS total le - qsum (freeS total le) (sumL de) de de.length
/-- Who gets one second more. -/
def luckS (total : Int) (de le : List Int) : List Nat := (srt (shr (freeS total le) (sumL de) de) de.length).take (leftS total de le).toNat
def splitG (total : Int) (de le : List Int) (l : List Nat) : List Int := mapN de.length fun i => ga le i + shq (freeS total le) (sumL de) de i + if i ∈ l then 1 else 0
def splitF (total : Int) (de le : List Int) : List Int :=
  if validS total de le then
    if sumL de = 0 then le.set 0 (ga le 0 + freeS total le) else splitG total de le (luckS total de le)
  else []

theorem sum_nonneg {de : List Int} (h : allB de 0 999 = true) (k : Nat) (hk : k ≤ de.length) : 0 ≤ sumL (de.take k) ∧ sumL (de.take k) ≤ 999 * (k : Int) := by
  induction k with
  | zero => simp [sumL]
  | succ k ih =>
    have h1 := ih (by omega)
    have h2 := allB_at h (k := k) (by omega)
    rw [sumL_take de k (by omega)]
    omega
theorem ga_le_sum {de : List Int} (h : allB de 0 999 = true) (k : Nat) (hk : k ≤ de.length) (i : Nat) (hi : i < k) : ga de i ≤ sumL (de.take k) := by
  induction k with
  | zero => omega
  | succ k ih =>
    have h2 := allB_at h (k := k) (by omega)
    have h3 := (sum_nonneg h k (by omega)).1
    rw [sumL_take de k (by omega)]
    by_cases e : i = k
    · subst e
      rw [ga_at (by omega)]
      omega
    · have := ih (by omega) (by omega)
      omega

set_option maxHeartbeats 1600000 in
theorem split_zero (total : Int) (de le : List Int) (A B : Option Addr) (c d : Nat) (w : World) (ha : RdL fI w A de) (hb : RdL fI w B le) (hv : validS total de le = true) (h0 : sumL de = 0) :
    Calls Try.prog 30 #[.int .i64 total, .slice A de.length c, .slice B le.length d] w (NewS fI 3 w (le.set 0 (ga le 0 + freeS total le))) := by
  simp only [validS, Bool.and_eq_true, decide_eq_true_eq] at hv
  obtain ⟨⟨⟨⟨⟨h1, h2⟩, h3⟩, h4⟩, h5⟩, h6⟩ := hv
  have h1' : 0 ≤ total ∧ total ≤ 180 := by simpa [inB] using h1
  have h2' : 1 ≤ de.length ∧ de.length ≤ 5 := by simp [inB] at h2; omega
  have s1 := small_allB h4 (by omega) (by omega) (by omega)
  have s2 := small_allB h5 (by omega) (by omega) (by omega)
  have hl : 0 < le.length := by omega
  have hlb : le.length ≤ 5 := by omega
  have hl0 : (0 : Int) < ((le.length : Nat) : Int) := by omega
  have hg := allB_at h5 hl
  rw [ga_at hl] at hg
  have hs2 := sumL_small le s2 le.length (Nat.le_refl _)
  rw [List.take_length] at hs2
  have Hlen := Lib.hid (show (le.set 0 (ga le 0 + freeS total le)).length = le.length by simp)
  have Hfree := Lib.hid (show freeS total le = total - sumL le from rfl)
  clear h3 h1 h2 h4 h5
  go_enter Try.func30, Try.ntmps30
  go_wp2_with fail
  refine (sSum_any _ _ _ _ hb s2).mono ?_
  rintro e w' ⟨rfl, rfl⟩
  generalize hS : sumL le = S at hs2 h6
  go_wp2_with fail
  refine (sSum_any _ _ _ _ ha s1).mono ?_
  rw [h0]
  rintro e w' ⟨rfl, rfl⟩
  go_wp2_with fail
  refine (copyInts_any le B d _ hb (by omega)).mono ?_
  rintro e w1 ⟨A1, c1, rfl, ho, b1⟩
  obtain ⟨g, og, rfl, hcg, hfg, hlog, hltg⟩ := ho.o.at (k := 0) hl
  have hs := ho.o.set (k := 0) (x := ga le 0 + freeS total le) hl
  rw [ga_at hl] at hcg
  rw [Hfree.out, hS] at hs
  simp only [Nat.add_zero, fI] at hcg hfg hs
  have hs' := Lib.hid hs
  have hS' := Lib.hid hS
  clear hs ho hS ha hb h0 s1 s2
  go_wp2_with fail
  go_ret
  refine ⟨some ⟨g, og, none⟩, c1, by rw [Hlen.out]; rfl, ?_, b1.grown (only_set _) b1.size (fun k e => by simp at e; omega)⟩
  rw [Hfree.out, hS'.out]
  exact hs'.out
theorem split_step (le : List Int) (k n : Nat) (q : Nat → Int) : (mapN n fun i => if i < k then ga le i + q i else ga le i).set k (ga le k + q k) = mapN n fun i => if i < k + 1 then ga le i + q i else ga le i := by
  rw [mapN_set]
  refine mapN_congr fun i hi => ?_
  by_cases e : i = k
  · subst e
    rw [if_pos rfl, if_pos (by omega)]
  · rw [if_neg e]
    by_cases h : i < k
    · rw [if_pos h, if_pos (by omega)]
    · rw [if_neg h, if_neg (by omega)]

theorem luck_step (b : Nat → Int) (n p : Nat) (l l' : List Nat) (hl : l' = l ++ [p]) (hp : p ∉ l) : (mapN n fun i => b i + if i ∈ l then 1 else 0).set p (b p + 1) = mapN n fun i => b i + if i ∈ l' then 1 else 0 := by
  rw [mapN_set, hl]
  refine mapN_congr fun i hi => ?_
  by_cases e : i = p
  · subst e; simp
  · simp [e]
theorem used_step (n p : Nat) (l l' : List Nat) (hl : l' = l ++ [p]) : (mapN n fun i => decide (i ∈ l)).set p true = mapN n fun i => decide (i ∈ l') := by
  rw [mapN_set, hl]
  refine mapN_congr fun i hi => ?_
  by_cases e : i = p
  · subst e; simp
  · simp [e]

set_option maxHeartbeats 3200000 in
theorem split_more (total : Int) (de le : List Int) (A B : Option Addr) (c d : Nat) (w : World) (ha : RdL fI w A de) (hb : RdL fI w B le) (hv : validS total de le = true) (h0 : sumL de ≠ 0) :
    Calls Try.prog 30 #[.int .i64 total, .slice A de.length c, .slice B le.length d] w (NewS fI 3 w (splitG total de le (luckS total de le))) := by
  obtain ⟨i0, hi0, hz0, hz1, hz2⟩ := info_parts info_Int
  simp only [validS, Bool.and_eq_true, decide_eq_true_eq] at hv
  obtain ⟨⟨⟨⟨⟨h1, h2⟩, h3⟩, h4⟩, h5⟩, h6⟩ := hv
  have h1' : 0 ≤ total ∧ total ≤ 180 := by simpa [inB] using h1
  have h2' : 1 ≤ de.length ∧ de.length ≤ 5 := by simp [inB] at h2; omega
  have s1 := small_allB h4 (by omega) (by omega) (by omega)
  have s2 := small_allB h5 (by omega) (by omega) (by omega)
  have hs2 : 0 ≤ sumL le := by
    have key : ∀ k, k ≤ le.length → 0 ≤ sumL (le.take k) := by
      intro k
      induction k with
      | zero => intro _; simp [sumL]
      | succ k ih =>
        intro hk
        have h1 := ih (by omega)
        have h2 := allB_at h5 (k := k) (by omega)
        rw [sumL_take le k (by omega)]
        omega
    have := key le.length (Nat.le_refl _)
    rwa [List.take_length] at this
  have hd := sum_nonneg h4 de.length (Nat.le_refl _)
  rw [List.take_length] at hd
  obtain ⟨F, hF⟩ : ∃ F, F = freeS total le := ⟨_, rfl⟩
  obtain ⟨D, hD⟩ : ∃ D, D = sumL de := ⟨_, rfl⟩
  have hF' : F = total - sumL le := hF
  have hFb : 0 ≤ F ∧ F ≤ 180 := by omega
  have hDb : 0 < D ∧ D ≤ 5000 := by omega
  have hgd : ∀ i, i < de.length → 0 ≤ ga de i ∧ ga de i ≤ 999 ∧ ga de i ≤ D := by
    intro i hi
    have h1 := allB_at h4 hi
    have h2 := ga_le_sum h4 de.length (Nat.le_refl _) i hi
    rw [List.take_length, ← hD] at h2
    rw [ga_at hi] at h1
    omega
  have hgl : ∀ i, i < le.length → 0 ≤ ga le i ∧ ga le i ≤ 180 := by
    intro i hi
    have h1 := allB_at h5 hi
    rwa [ga_at hi] at h1
  have hqb : ∀ i, i < de.length → 0 ≤ shq F D de i ∧ shq F D de i ≤ F := fun i hi => shq_bd F D de i hDb.1 hFb.1 (hgd i hi).1 (hgd i hi).2.2
  have hrb : ∀ i, 0 ≤ shr F D de i ∧ shr F D de i < D := fun i => shr_bd F D de i hDb.1
  have hpb : ∀ i, i < de.length → 0 ≤ F * ga de i ∧ F * ga de i ≤ 180000 := by
    intro i hi
    obtain ⟨g1, g2, g3⟩ := hgd i hi
    refine ⟨Int.mul_nonneg hFb.1 g1, ?_⟩
    calc F * ga de i ≤ 180 * ga de i := Int.mul_le_mul_of_nonneg_right hFb.2 g1
      _ ≤ 180000 := by omega
  have hsb : ∀ k, k ≤ de.length → 0 ≤ qsum F D de k ∧ qsum F D de k ≤ 180 * k := by
    intro k
    induction k with
    | zero => intro _; simp [qsum]
    | succ k ih =>
      intro hk
      have h1 := ih (by omega)
      have h2 := hqb k (by omega)
      rw [qsum]
      omega
  have hleft := left_bd F D de hD hDb.1 (by omega)
  have Hgl := Lib.hid hgl
  have Hqb := Lib.hid hqb
  have Hrb := Lib.hid hrb
  have Hpb := Lib.hid hpb
  have Hsb := Lib.hid hsb
  have HD := Lib.hid hD
  have HF := Lib.hid hF
  have HF' := Lib.hid hF'
  have Hleft := Lib.hid hleft
  have Hn := Lib.hid h3
  have hl1 : de.length ≤ le.length := by omega
  have hl2 : le.length ≤ 5 := by omega
  have hself := Lib.hid (show le = mapN le.length (fun i => if i < 0 then ga le i + shq F D de i else ga le i) from (mapN_self le).symm.trans (mapN_congr fun i hi => (if_neg (by omega)).symm))
  have hmk : ∀ W, (Instr.makeSlice 47 (.int .i64 ((de.length : Nat) : Int)) (.int .i64 ((de.length : Nat) : Int))).run Try.prog W = .ok (.slice (some ⟨W.heap.size, 0, none⟩) de.length de.length) (W.alloc (.cells (List.replicate de.length (Value.bool false)).toArray 4)) := by
    obtain ⟨i0, hi0, hz0, hz1, hz2⟩ := info_parts info_Bool
    exact fun W => run_make_n (P := Try.prog) 47 4 i0 (Value.bool false) Try.underlying47 hi0 hz0 hz1 rfl .i64 .i64 de.length de.length (Nat.le_refl _) (by omega) (by omega) W
  clear h3 h1 h2 h4 h5 hgd hgl hqb hrb hpb hsb hleft hF' hd
  go_enter Try.func30, Try.ntmps30
  go_wp2_with fail
  refine (sSum_any _ _ _ _ hb s2).mono ?_
  rintro e w' ⟨rfl, rfl⟩
  generalize hS : sumL le = S at hs2 h6 HF'
  go_wp2_with fail
  refine (sSum_any _ _ _ _ ha s1).mono ?_
  rw [← hD]
  rintro e w' ⟨rfl, rfl⟩
  clear hS hF hD s1 s2 h0
  go_wp2_with fail
  rw [← HF'.out]
  refine (copyInts_any le B d _ hb (by omega)).mono ?_
  rintro e w1 ⟨A1, c1, rfl, ho, b1⟩
  have hbel := b1
  replace ho := ho.o
  have hD1 : (D == 0) = false := by simp; omega
  have hz := b1.size
  have ho1 : OwnO fI w1 w.heap.size 3 A1 c1 (mapN le.length (fun i => if i < 0 then ga le i + shq F D de i else ga le i)) := by
    rw [← hself.out]; exact ho
  have hr1 := (OwnL.of_cap (lo := w1.heap.size) fI (Blk.new w1 3 #[]) (Nat.le_refl _) rfl (by simp [maxLen])).o
  have hsep1 := ho1.sep hr1 (Nat.le_refl _)
  clear b1 hb ho
  go_wp2_with fail
  go_loopw [10, 11, 12] (fun rs lf i wr => ∃ k : Nat, k ≤ de.length ∧ i = .int .i64 k ∧ lf = .int .i64 (F - qsum F D de k) ∧ (∃ xs A2 c2, rs = .slice A2 xs.length c2 ∧ OwnO fI wr w.heap.size 3 A2 c2 xs ∧ xs = mapN k (shr F D de) ∧ Sep A1 A2) ∧ OwnO fI wr w.heap.size 3 A1 c1 (mapN le.length fun i => if i < k then ga le i + shq F D de i else ga le i) ∧ Below w.heap.size w wr) (fun _ _ i _ => de.length - (intOf i).toNat)
  case atStart => exact ⟨0, Nat.zero_le _, rfl, by simp [qsum], ⟨[], _, _, rfl, hr1.mono hz, by simp [mapN], hsep1⟩, ho1.alloc _, hbel.alloc hz _⟩
  case round =>
    clear hr1 hsep1 ho1 hbel hz
    obtain ⟨k, hk, rfl, rfl, ⟨xs, A2, c2, rfl, hr, hxs, hsep⟩, ho, hbel⟩ := hrel
    have hxl : xs.length ≤ k := by rw [hxs, mapN_length]; omega
    have Hxs := Lib.hid hxs
    clear hxs
    have hz := hbel.size
    by_cases hlt : k < de.length
    · obtain ⟨b1, o1, rfl, hcw⟩ := ha.at hlt
      have hb1 : b1 < w.heap.size := World.block_lt_of_cell? w _ hcw
      rw [ga_at hlt] at hcw
      have hc1 := (hbel.cell hb1).trans hcw
      have hlt2 : k < le.length := by omega
      obtain ⟨g, og, rfl, hcg, hfg, hlog, hltg⟩ := ho.at (k := k) (by rw [mapN_length]; exact hlt2)
      rw [mapN_get, if_neg (by omega)] at hcg
      have hs := ho.set (k := k) (x := ga le k + shq F D de k) (by rw [mapN_length]; exact hlt2)
      rw [split_step] at hs
      have hq := Hqb.out k hlt
      have hr0 := Hrb.out k
      have hp := Hpb.out k hlt
      have hsb := Hsb.out k hk
      have hgb := Hgl.out k hlt2
      have hq1 : qsum F D de (k + 1) = qsum F D de k + shq F D de k := rfl
      have Hq1 := Lib.hid hq1
      have hm1 := Lib.hid (mapN_succ k (shr F D de))
      have hrr := hr.grown (only_set (g := g) (k := og + k) (fI (ga le k + shq F D de k))) (by
        rcases hsep.or with h | h
        · exact .inl h
        · exact .inr (by simpa using h))
      have hsz : (wr.setCell ⟨g, og + k, none⟩ (fI (ga le k + shq F D de k))).heap.size = wr.heap.size := by simp
      have hrl := hrr.lt
      have Hs := Lib.hid hs
      have Hsep := Lib.hid hsep
      have hbel' := hbel.grown (only_set (g := g) (k := og + k) (fI (ga le k + shq F D de k))) hz (fun k e => by simp at e; omega)
      have hc1b := (hbel'.cell hb1).trans hcw
      have Hbel := Lib.hid hbel'
      have hshq := Lib.hid (show shq F D de k = F * ga de k / D from rfl)
      have hshr := Lib.hid (show shr F D de k = F * ga de k % D from rfl)
      clear hq1 hs ho hr hsep hbel hbel' hcw
      simp only [shq, shr] at hq hr0 hrr hrl hsz Hs Hbel hc1b
      generalize ga de k = x at hc1 hc1b hq hr0 hp hrr hrl hsz Hs Hbel hshq hshr
      generalize hy : ga le k = y at hcg hgb hrr hrl hsz Hs Hbel hc1b
      generalize hQ : qsum F D de k = Q at hsb
      have HQ := Lib.hid hQ
      simp only [fI] at hc1 hcg hc1b
      clear hy hQ
      go_wp2_with (at_builtin; refine wpList_pushO rfl (.tmp 62) (.tmp 71) 22 rfl i0 _ 8 Try.underlying22 hi0 hz0 hz1 hz2 rfl rfl (hrr.alloc _) _ _ rfl (by first | exact cell_new _ _ _ | (have := cell_new (wr.setCell ⟨g, og + k, none⟩ (fI (y + F * x / D))) (.int .i64 (F * x % D)) 3; rwa [hsz] at this)) rfl (by omega) (by omega) (by simp; omega) ?_; intro A3 c3 w3 ho3 hg3 hb3)
      have hout := (Hs.out.alloc (.cells #[.int .i64 (F * x % D)] 3)).grown hg3 Hsep.out.symm.or
      have hbel3 := below_push (Nat.le_trans hz (Nat.le_of_eq hsz.symm)) Hbel.out hrl hg3
      have hsep3 := (Hsep.out.symm.push (n := wr.heap.size) (fun b hb => by simp at hb; omega) (hb3.imp id fun h b hb => by have := h b hb; simp at this; omega)).symm
      go_roundw
      case rel => exact ⟨k + 1, by omega, by go_num, by rw [Hq1.out, hshq.out, HQ.out]; congr 1; omega, ⟨_, A3, c3, by simp, ho3, by rw [hm1.out, ← Hxs.out, hshr.out], hsep3⟩, hout, hbel3⟩
      case measure => simp [intOf]; omega
    · obtain rfl : k = de.length := by omega
      obtain ⟨wo, rfl⟩ : ∃ wo : World, wo = wr := ⟨_, rfl⟩
      obtain ⟨L, hL⟩ : ∃ L, L = F - qsum F D de de.length := ⟨_, rfl⟩
      have hLb := Hleft.out
      rw [← hL] at hLb ⊢
      have hLt : L = leftS total de le := by rw [hL, leftS, ← HF.out, ← HD.out]
      have HLt := Lib.hid hLt
      obtain ⟨l, hl⟩ : ∃ l, l = srt (shr F D de) de.length := ⟨_, rfl⟩
      have hll : l.length = de.length := by rw [hl, (srt_srt _ _).length]
      have hxl2 : xs.length = de.length := by rw [Hxs.out, mapN_length]
      have hsr : Srt (ga xs) xs.length l := by
        rw [hxl2, hl, Hxs.out]
        exact (srt_srt _ _).congr fun i hi => (ga_mapN hi).symm
      have hout0 : (mapN le.length fun i => if i < de.length then ga le i + shq F D de i else ga le i) = mapN le.length fun i => ga le i + shq F D de i + if i ∈ l.take 0 then 1 else 0 := mapN_congr fun i hi => by
        rw [if_pos (by have := Hn.out; omega)]
        simp
      rw [hout0] at ho
      have Hll := Lib.hid hll
      have Hxl := Lib.hid hxl2
      have Hsr := Lib.hid hsr
      have Hl := Lib.hid hl
      have hl3 : de.length ≤ l.length := by omega
      have hl4 : l.length ≤ de.length := by omega
      clear hll hxl2 hsr hl hL hLt hout0
      have hU : OwnO fB (wo.alloc (.cells (List.replicate de.length (Value.bool false)).toArray 4)) w.heap.size 4 (some ⟨wo.heap.size, 0, none⟩) de.length (mapN de.length fun i => decide (i ∈ l.take 0)) := by
        refine .inr ⟨wo.heap.size, 0, _, rfl, hz, Blk.new _ _ _, by rw [mapN_length]; exact Nat.le_refl _, by simp [maxLen]; omega, by simp, fun i x hx => ?_⟩
        have hi : i < de.length := by
          have := (List.getElem?_eq_some_iff.mp hx).1
          rwa [mapN_length] at this
        rw [List.getElem?_eq_getElem (by rw [mapN_length]; exact hi), mapN_get] at hx
        simp at hx
        subst hx
        simp [hi]
      have hsU1 : Sep A1 (some ⟨wo.heap.size, 0, none⟩) := fun b hb h2 => by
        have := (ho.lt b hb).2
        simp at h2
        omega
      have hsU2 : Sep A2 (some ⟨wo.heap.size, 0, none⟩) := fun b hb h2 => by
        have := (hr.lt b hb).2
        simp at h2
        omega
      replace ho := ho.alloc (.cells (List.replicate de.length (Value.bool false)).toArray 4)
      replace hr := hr.alloc (.cells (List.replicate de.length (Value.bool false)).toArray 4)
      replace hbel := hbel.alloc hz (.cells (List.replicate de.length (Value.bool false)).toArray 4)
      clear ha
      go_wp2_with fail
      go_loopw [11] (fun lf wq => ∃ t : Nat, (t : Int) ≤ L ∧ lf = .int .i64 (L - t) ∧ OwnO fI wq w.heap.size 3 A1 c1 (mapN le.length fun i => ga le i + shq F D de i + if i ∈ l.take t then 1 else 0) ∧ OwnO fB wq w.heap.size 4 (some ⟨wo.heap.size, 0, none⟩) de.length (mapN de.length fun i => decide (i ∈ l.take t)) ∧ OwnO fI wq w.heap.size 3 A2 c2 xs ∧ Below w.heap.size w wq) (fun lf _ => (intOf lf).toNat)
      case atStart => exact ⟨0, by omega, by simp, ho, hU, hr, hbel⟩
      case round =>
        clear ho hU hr hbel
        obtain ⟨t, ht, rfl, ho, hU, hr, hbel⟩ := hrel
        have hz2 := hbel.size
        by_cases hlt2 : (t : Int) < L
        · have htl : t < l.length := by omega
          have hml : l[t] < de.length := by
            have := Hsr.out.mem.mp (List.getElem_mem htl)
            rwa [Hxl.out] at this
          have hlg := fun w ha hb => largest_any xs (mapN de.length fun i => decide (i ∈ l.take t)) l t A2 (some ⟨wo.heap.size, 0, none⟩) c2 de.length w ha hb (by rw [Hxl.out]; omega) (by rw [mapN_length, Hxl.out]) Hsr.out htl (fun i h => by rw [mapN_get])
          rw [mapN_length] at hlg
          have Htk := Lib.hid (List.take_succ_eq_append_getElem htl)
          have hfr := Hsr.out.fresh htl
          generalize l[t] = p at hlg hml hfr Htk
          have hgb := Hgl.out p (by omega)
          have hqb := Hqb.out p hml
          have hpl : p < le.length := by omega
          go_wp2_with fail
          refine (hlg _ hr.rd hU.rd).mono ?_
          rintro e w5 ⟨rfl, b5⟩
          replace ho := ho.below b5
          replace hU := hU.below b5
          replace hr := hr.below b5
          replace hbel := hbel.trans (b5.mono hz2)
          have hz3 := hbel.size
          have hU2 := hU.set (k := p) (x := true) (by rw [mapN_length]; exact hml)
          obtain ⟨ub, uo, e1, hcu, hfu, _, _⟩ := hU.at (k := p) (by rw [mapN_length]; exact hml)
          injection e1 with e1
          injection e1 with e1 e2
          subst e1 e2
          rw [used_step _ _ _ _ Htk.out] at hU2
          have ho2 := ho.grown (only_set (g := wo.heap.size) (k := 0 + p) (fB true)) hsU1.symm.or
          have hr2 := hr.grown (only_set (g := wo.heap.size) (k := 0 + p) (fB true)) hsU2.symm.or
          have hbel2 := hbel.grown (only_set (g := wo.heap.size) (k := 0 + p) (fB true)) hz3 (fun k e => by simp at e; omega)
          obtain ⟨g, og, rfl, hcg, hfg, hlog, hltg⟩ := ho2.at (k := p) (by rw [mapN_length]; exact hpl)
          rw [mapN_get, if_neg hfr] at hcg
          have ho3 := ho2.set (k := p) (x := ga le p + shq F D de p + 1) (by rw [mapN_length]; exact hpl)
          rw [luck_step _ _ _ _ _ Htk.out hfr] at ho3
          have hU3 := hU2.grown (only_set (g := g) (k := og + p) (fI (ga le p + shq F D de p + 1))) hsU1.or
          have hr3 := hr2.grown (only_set (g := g) (k := og + p) (fI (ga le p + shq F D de p + 1))) hsep.or
          have hbel3 := hbel2.grown (only_set (g := g) (k := og + p) (fI (ga le p + shq F D de p + 1))) hbel2.size (fun k e => by simp at e; omega)
          simp only [Nat.zero_add, Int.add_zero, fI, fB] at hcu hfu hcg hfg ho3 hU3 hr3 hbel3
          have Ho3 := Lib.hid ho3
          have HU3 := Lib.hid hU3
          have Hr3 := Lib.hid hr3
          have Hbel3 := Lib.hid hbel3
          clear ho hU hr hbel ho2 hr2 hbel2 hU2 ho3 hU3 hr3 hbel3 hlg b5 hfr
          generalize ga le p = y at hcg hgb Ho3 HU3 Hr3 Hbel3
          generalize shq F D de p = q at hcg hqb Ho3 HU3 Hr3 Hbel3
          go_wp2_with fail
          go_roundw
          case rel => exact ⟨t + 1, by omega, by go_num, Ho3.out, HU3.out, Hr3.out, Hbel3.out⟩
          case measure => simp [intOf]; omega
        · have hfin : (mapN le.length fun i => ga le i + shq F D de i + if i ∈ l.take t then 1 else 0) = splitG total de le (luckS total de le) := by
            rw [splitG, luckS, ← HF.out, ← HD.out, ← Hl.out, ← HLt.out, Hn.out, show L.toNat = t by omega]
          have hlen : (splitG total de le (luckS total de le)).length = le.length := by rw [splitG, mapN_length, Hn.out]
          rw [hfin] at ho
          have Hlen := Lib.hid hlen
          have Ho := Lib.hid ho
          have Hbel := Lib.hid hbel
          clear ho hU hr hbel hlen hfin
          go_wp2_with fail
          go_ret
          exact ⟨A1, c1, by rw [Hlen.out]; rfl, Ho.out, Hbel.out⟩

theorem sSplit_any (total : Int) (de le : List Int) (A B : Option Addr) (c d : Nat) (w : World) (ha : RdL fI w A de) (hb : RdL fI w B le) (hn : de.length ≤ 2000000) (hm : le.length ≤ 2000000) :
    Calls Try.prog 16 #[.int .i64 total, .slice A de.length c, .slice B le.length d] w (NewS fI 3 w (splitF total de le)) := by
  cases hv : validS total de le with
  | false =>
    have H := Lib.hid (show splitF total de le = [] by simp [splitF, hv])
    go_enter Try.func16, Try.ntmps16
    go_wp2_with fail
    refine (sValidS_any total de le A B c d _ ha hb hn hm).mono ?_
    rw [hv]
    rintro e w' ⟨rfl, rfl⟩
    go_wp2_with fail
    go_ret
    rw [H.out]
    exact ⟨none, 0, rfl, OwnO.nil _ _ _ _, Below.refl _ _⟩
  | true =>
    by_cases h0 : sumL de = 0
    · have H := Lib.hid (show splitF total de le = le.set 0 (ga le 0 + freeS total le) by simp [splitF, hv, h0])
      go_enter Try.func16, Try.ntmps16
      go_wp2_with fail
      refine (sValidS_any total de le A B c d _ ha hb hn hm).mono ?_
      rw [hv]
      rintro e w' ⟨rfl, rfl⟩
      go_wp2_with fail
      refine (split_zero total de le A B c d _ ha hb hv h0).mono ?_
      rintro e w1 ⟨A1, c1, rfl, ho, b1⟩
      go_wp2_with fail
      go_ret
      rw [H.out]
      exact ⟨A1, c1, by rw [List.length_set]; rfl, ho, b1⟩
    · have H := Lib.hid (show splitF total de le = splitG total de le (luckS total de le) by simp [splitF, hv, h0])
      go_enter Try.func16, Try.ntmps16
      go_wp2_with fail
      refine (sValidS_any total de le A B c d _ ha hb hn hm).mono ?_
      rw [hv]
      rintro e w' ⟨rfl, rfl⟩
      go_wp2_with fail
      refine (split_more total de le A B c d _ ha hb hv h0).mono ?_
      rintro e w1 ⟨A1, c1, rfl, ho, b1⟩
      go_wp2_with fail
      go_ret
      rw [H.out]
      exact ⟨A1, c1, rfl, ho, b1⟩
end Go.Proofs.Ytknddadgmbkpnaa
