/-
  The program's SplitGreens.
-/
import Derived.Test.YtknddadgmbkpnaaSplSort
import Derived.Test.YtknddadgmbkpnaaSplLaw
namespace Go.Proofs.Ytknddadgmbkpnaa
open Go.RowKit
set_option linter.unusedVariables false

theorem cloneI_any (xs : List Int) (A : Option Addr) (cap : Nat) (w : World) (hr : RdL fI w A xs) (hn : xs.length ≤ 2000000) :
    Calls Try.prog 32 #[.slice A xs.length cap] w (NewS fI 3 w xs) := by
  obtain ⟨i0, hi0, hz0, hz1, hz2⟩ := info_parts info_Int
  have q22 : ∀ (w : World) (a : Option Addr) (n c n' c' : Nat), (binOp .eql 22 (.slice a n c) (.slice none n' c')).run Try.prog w = .ok (.bool a.isNone) w := fun w a n c n' c' => Lib.run_eql_slice_nil w _ _ a n c n' c' Try.underlying22
  cases A with
  | none =>
    obtain rfl : xs = [] := by
      rcases hr with h | ⟨b, o, h, _⟩
      · exact h
      · cases h
    simp only [List.length_nil]
    go_enter Try.func32, Try.ntmps32
    go_wp2_with fail
    go_ret
    exact ⟨none, 0, rfl, OwnO.nil _ _ _ _, Below.refl _ _⟩
  | some ad =>
    have h0 := OwnL.of_cap (lo := w.heap.size) fI (Blk.new w 3 #[]) (Nat.le_refl _) rfl (by simp [maxLen])
    go_enter Try.func32, Try.ntmps32
    go_wp2_with (at_builtin; refine wpList_appendL rfl (.tmp 5) (.tmp 6) 22 rfl i0 _ 8 Try.underlying22 hi0 hz0 hz1 hz2 rfl rfl h0 (some ad) xs cap rfl (hr.alloc _) (fun _ => rfl) (by simp; omega) (by omega) (by simp) ?_; intro A' c' w' ho hg hb)
    go_ret
    exact ⟨A', c', rfl, (by simpa using ho : OwnL fI w' w.heap.size 3 A' c' xs).o, ((Below.refl _ _).alloc (Nat.le_refl _) _).grown hg (by simp) (fun k e => by simp at e; omega)⟩

theorem fill_step (n k : Nat) : (mapN n fun t => if t < k then t else 0).set k k = mapN n fun t => if t < k + 1 then t else 0 := by
  rw [mapN_set]
  refine mapN_congr fun i hi => ?_
  by_cases e : i = k
  · subst e
    rw [if_pos rfl, if_pos (by omega)]
  · rw [if_neg e]
    by_cases h : i < k
    · rw [if_pos h, if_pos (by omega)]
    · rw [if_neg h, if_neg (by omega)]

set_option maxHeartbeats 1600000 in
/-- slices.SortStableFunc over at most five stages. -/
theorem stable_any (F D : Int) (de : List Int) (b8 b4 b9 : Nat) (A : Option Addr) (c : Nat) (n : Nat) (hn : n = de.length) (hn0 : 0 < n) (hn5 : n ≤ 5) (hD : 0 < D) (hD2 : D ≤ 5000) (hp : ∀ i, i < de.length → 0 ≤ F * ga de i ∧ F * ga de i ≤ 180000) (w : World) (hb : SplBox w b8 b4 b9 F D de A c)
    (lo : Nat) (B : Option Addr) (d : Nat) (ho : OwnO fN w lo 3 B d (List.range n)) (hs : Apart B b8 b4 b9 A) :
    Calls Try.prog 33 #[.slice B n d, .func (.func 34) #[] #[.pointer (some ⟨b8, 0, none⟩), .pointer (some ⟨b4, 0, none⟩), .pointer (some ⟨b9, 0, none⟩)]] w fun e w' =>
      e = .returned (.tuple #[]) ∧ OwnO fN w' lo 3 B d (srt (shr F D de) n) ∧ w.grownBy w' (blk B) := by
  have hcon := insort_any F D de b8 b4 b9 A c n hn hn0 hn5 hD hD2 hp w hb lo B d ho hs
  clear ho hb hs hp hn
  have h41 : Calls Try.prog 41 #[.slice B n d, .int .i64 (n : Int), .func (.func 34) #[] #[.pointer (some ⟨b8, 0, none⟩), .pointer (some ⟨b4, 0, none⟩), .pointer (some ⟨b9, 0, none⟩)]] w fun e w' =>
      e = .returned (.tuple #[]) ∧ OwnO fN w' lo 3 B d (srt (shr F D de) n) ∧ w.grownBy w' (blk B) := by
    have hn5' : (n : Int) ≤ 5 := by omega
    go_enter Try.func41, Try.ntmps41
    go_wp2_with fail
    go_loopw [7, 8] (fun va vb wr => va = .int .i64 0 ∧ vb = .int .i64 20 ∧ wr = w) (fun _ _ _ => 0)
    case atStart => exact ⟨rfl, rfl, rfl⟩
    case round =>
      obtain ⟨rfl, rfl, rfl⟩ := hrel
      go_wp2_with fail
      refine hcon.mono ?_
      rintro e w1 ⟨rfl, ho, hg⟩
      go_wp2_with fail
      go_loopw [6] (fun va wr => va = .int .i64 20 ∧ wr = w1) (fun _ _ => 0)
      case atStart => exact ⟨rfl, rfl⟩
      case round =>
        obtain ⟨rfl, rfl⟩ := hrel
        go_wp2_with fail
        go_end0
        exact ⟨rfl, ho, hg⟩
  clear hcon
  go_enter Try.func33, Try.ntmps33
  go_wp2_with fail
  refine h41.mono ?_
  rintro e w1 ⟨rfl, ho, hg⟩
  go_wp2_with fail
  go_end0
  exact ⟨rfl, ho, hg⟩

set_option maxHeartbeats 6400000 in
theorem iSplit_any (total : Int) (de le : List Int) (A B : Option Addr) (c d : Nat) (w : World) (ha : RdL fI w A de) (hb : RdL fI w B le) (hn : de.length ≤ 2000000) (hm : le.length ≤ 2000000) :
    Calls Try.prog 17 #[.int .i64 total, .slice A de.length c, .slice B le.length d] w (NewS fI 3 w (splitF total de le)) := by
  obtain ⟨i0, hi0, hz0, hz1, hz2⟩ := info_parts info_Int
  have hno : Hid (∀ w', Below w.heap.size w w' → validS total de le = false → NewS fI 3 w (splitF total de le) (.returned (.slice none 0 0)) w') := Lib.hid fun w' hB h => by
    rw [show splitF total de le = [] by simp [splitF, h]]
    exact ⟨none, 0, rfl, OwnO.nil _ _ _ _, hB⟩
  go_enter Try.func17, Try.ntmps17
  go_wp2_with fail
  have h4b := Blk.new w 22 #[.slice A de.length c]
  have hB1 := (Below.refl w.heap.size w).alloc (Nat.le_refl _) (.cells #[.slice A de.length c] 22)
  have ha1 := ha.alloc (.cells #[.slice A de.length c] 22)
  have hb1 := hb.alloc (.cells #[.slice A de.length c] 22)
  obtain ⟨b4, hb4⟩ : ∃ b4, b4 = w.heap.size := ⟨_, rfl⟩
  rw [← hb4] at h4b
  simp only [← hb4]
  have Hb4 := Lib.hid hb4
  clear ha hb hb4
  generalize w.alloc (.cells #[.slice A de.length c] 22) = w1 at *
  have k4 := h4b.cell 0
  simp at k4
  refine (within_any _ _ _ _).mono ?_
  cases h1 : inB total 0 180
  · rintro e w' ⟨rfl, rfl⟩
    have H := Lib.hid (hno.out _ hB1 (by simp [validS, h1]))
    go_wp2_with fail
    go_ret
    exact H.out
  rintro e w' ⟨rfl, rfl⟩
  go_wp2_with fail
  refine (within_any _ _ _ _).mono ?_
  cases h2 : inB (de.length : Int) 1 5
  · rintro e w' ⟨rfl, rfl⟩
    have H := Lib.hid (hno.out _ hB1 (by simp [validS, h2]))
    go_wp2_with fail
    go_ret
    exact H.out
  rintro e w' ⟨rfl, rfl⟩
  by_cases h3 : le.length = de.length
  case neg =>
    have H := Lib.hid (hno.out _ hB1 (by simp [validS, h3]))
    have hne : (((le.length : Nat) : Int) != ((de.length : Nat) : Int)) = true := by simp; omega
    go_wp2_with fail
    go_ret
    exact H.out
  have H3 := Lib.hid h3
  have hne : (((le.length : Nat) : Int) != ((de.length : Nat) : Int)) = false := by simp [h3]
  clear h3
  go_wp2_with fail
  refine (allWithin_any _ _ _ _ _ _ ha1 (by omega)).mono ?_
  cases h4 : allB de 0 999
  · rintro e w' ⟨rfl, rfl⟩
    have H := Lib.hid (hno.out _ hB1 (by simp [validS, h4]))
    go_wp2_with fail
    go_ret
    exact H.out
  rintro e w' ⟨rfl, rfl⟩
  go_wp2_with fail
  refine (allWithin_any _ _ _ _ _ _ hb1 (by omega)).mono ?_
  cases h5 : allB le 0 180
  · rintro e w' ⟨rfl, rfl⟩
    have H := Lib.hid (hno.out _ hB1 (by simp [validS, h5]))
    go_wp2_with fail
    go_ret
    exact H.out
  rintro e w' ⟨rfl, rfl⟩
  have h9 : de.length ≤ 5 := by have h9 := h2; simp [inB] at h9; omega
  have h10 : le.length ≤ 5 := by have := H3.out; omega
  have s1 := small_allB h4 (by omega) (by omega) (by omega)
  have s2 := small_allB h5 (by omega) (by omega) (by omega)
  go_wp2_with fail
  refine (iSum_any _ _ _ _ hb1 s2).mono ?_
  rintro e w' ⟨rfl, rfl⟩
  by_cases h6 : sumL le ≤ total
  case neg =>
    have H := Lib.hid (hno.out _ hB1 (by simp [validS, h6]))
    have hgt : total < sumL le := by omega
    clear h6
    go_wp2_with fail
    go_ret
    exact H.out
  have hv : validS total de le = true := by simp [validS, h1, h2, h4, h5, h6, H3.out]
  have h1' : 0 ≤ total ∧ total ≤ 180 := by simpa [inB] using h1
  have h2' : 1 ≤ de.length ∧ de.length ≤ 5 := by simp [inB] at h2; omega
  have hs2 : 0 ≤ sumL le := by
    have key : ∀ k, k ≤ le.length → 0 ≤ sumL (le.take k) := by
      intro k
      induction k with
      | zero => intro _; simp [sumL]
      | succ k ih =>
        intro hk
        have h1 := ih (by omega)
        have h2 := allB_at h5 (k := k) (by omega)
        rw [sumL_take le k (by omega)]
        omega
    have := key le.length (Nat.le_refl _)
    rwa [List.take_length] at this
  have hd := sum_nonneg h4 de.length (Nat.le_refl _)
  rw [List.take_length] at hd
  obtain ⟨F, hF⟩ : ∃ F, F = freeS total le := ⟨_, rfl⟩
  obtain ⟨D, hD⟩ : ∃ D, D = sumL de := ⟨_, rfl⟩
  have hF' : F = total - sumL le := hF
  have hFb : 0 ≤ F ∧ F ≤ 180 := by omega
  have hDb : 0 ≤ D ∧ D ≤ 5000 := by omega
  have hgl : ∀ i, i < le.length → 0 ≤ ga le i ∧ ga le i ≤ 180 := by
    intro i hi
    have h1 := allB_at h5 hi
    rwa [ga_at hi] at h1
  have hgd : ∀ i, i < de.length → 0 ≤ ga de i ∧ ga de i ≤ 999 ∧ ga de i ≤ D := by
    intro i hi
    have h1 := allB_at h4 hi
    have h2 := ga_le_sum h4 de.length (Nat.le_refl _) i hi
    rw [List.take_length, ← hD] at h2
    rw [ga_at hi] at h1
    omega
  have hpb : ∀ i, i < de.length → 0 ≤ F * ga de i ∧ F * ga de i ≤ 180000 := by
    intro i hi
    obtain ⟨g1, g2, g3⟩ := hgd i hi
    refine ⟨Int.mul_nonneg hFb.1 g1, ?_⟩
    calc F * ga de i ≤ 180 * ga de i := Int.mul_le_mul_of_nonneg_right hFb.2 g1
      _ ≤ 180000 := by omega
  have Hgl := Lib.hid hgl
  have Hgd := Lib.hid hgd
  have Hpb := Lib.hid hpb
  have HD := Lib.hid hD
  have HF := Lib.hid hF
  have HF' := Lib.hid hF'
  have Hv := Lib.hid hv
  have hl1 : de.length ≤ le.length := by have := H3.out; omega
  have hl2 : le.length ≤ 5 := by have := H3.out; omega
  have Hn := H3
  clear h1 h2 h4 h5 hgd hgl hpb hF' hd hv hno hne
  obtain ⟨S0, hS0⟩ : ∃ S0, S0 = sumL le := ⟨_, rfl⟩
  have hSb : 0 ≤ S0 ∧ S0 ≤ 180 := by omega
  have hsle := fun w hb => iSum_any le B d w hb s2
  have hsde := fun w ha => iSum_any de A c w ha s1
  rw [← hS0] at hsle HF' h6
  rw [← hD] at hsde
  simp only [← hS0]
  clear hS0 hF hD s1 s2 hs2
  go_wp2_with fail
  refine (hsle _ hb1).mono ?_
  rintro e w' ⟨rfl, rfl⟩
  have k4b := (h4b.alloc (.cells #[.int .i64 (total - S0)] 3)).cell 0
  simp at k4b
  go_wp2_with fail
  clear k4b
  rw [← HF'.out]
  have h8b := Blk.new w1 3 #[.int .i64 F]
  have hw1 := hB1.size
  replace h4b := h4b.alloc (.cells #[.int .i64 F] 3)
  replace hB1 := hB1.alloc hw1 (.cells #[.int .i64 F] 3)
  replace ha1 := ha1.alloc (.cells #[.int .i64 F] 3)
  replace hb1 := hb1.alloc (.cells #[.int .i64 F] 3)
  obtain ⟨b8, hb8⟩ : ∃ b8, b8 = w1.heap.size := ⟨_, rfl⟩
  rw [← hb8] at h8b hw1
  simp only [← hb8]
  clear k4 hb8
  generalize w1.alloc (.cells #[.int .i64 F] 3) = w2 at *
  refine (hsde _ ha1).mono ?_
  rintro e w' ⟨rfl, rfl⟩
  go_wp2_with fail
  have h9b := Blk.new w2 3 #[.int .i64 D]
  have hw2 := hB1.size
  have hlt8 := h8b.lt
  have hlt4 := h4b.lt
  replace h4b := h4b.alloc (.cells #[.int .i64 D] 3)
  replace h8b := h8b.alloc (.cells #[.int .i64 D] 3)
  replace hB1 := hB1.alloc hw2 (.cells #[.int .i64 D] 3)
  replace ha1 := ha1.alloc (.cells #[.int .i64 D] 3)
  replace hb1 := hb1.alloc (.cells #[.int .i64 D] 3)
  obtain ⟨b9, hb9⟩ : ∃ b9, b9 = w2.heap.size := ⟨_, rfl⟩
  rw [← hb9] at h9b hw2 hlt8 hlt4
  simp only [← hb9]
  clear hb9
  generalize w2.alloc (.cells #[.int .i64 D] 3) = w3 at *
  refine (cloneI_any le B d _ hb1 (by omega)).mono ?_
  rintro e w4 ⟨A1, c1, rfl, ho, v0⟩
  have hbx : SplBox w4 b8 b4 b9 F D de A c := SplBox.below ⟨h8b, h4b, h9b, ha1⟩ v0
  have hw3 := hB1.size
  have hB := hB1.trans (v0.mono hw3)
  have hap : Apart A1 b8 b4 b9 A := fun b hb => by
    have h1 := (ho.lt b hb).1
    have h2 := h8b.lt
    have h3 := h4b.lt
    have h4 := h9b.lt
    refine ⟨by omega, by omega, by omega, fun b' o hA e => ?_⟩
    obtain ⟨b2, o2, e2, hc2⟩ := ha1.at (k := 0) (by omega)
    rw [hA] at e2
    injection e2 with e2
    injection e2 with e2 e3
    subst e2 e3
    have := World.block_lt_of_cell? w3 _ hc2
    simp only at this
    omega
  clear h8b h4b h9b ha1 hb1 hB1 v0 hlt8 hlt4
  replace ho := ho.mono hw3
  have k9 := hbx.h9.cell 0
  have k8 := hbx.h8.cell 0
  simp at k9 k8
  have hw4 := hB.size
  by_cases hD0 : D = 0
  · subst hD0
    have hfin := Lib.hid (show splitF total de le = le.set 0 (ga le 0 + F) by rw [splitF, if_pos Hv.out, if_pos HD.out.symm, HF.out])
    have hl0 : 0 < le.length := by omega
    obtain ⟨g, og, rfl, hcg, hfg, hlog, hltg⟩ := ho.at (k := 0) hl0
    have hl0' : (0 : Int) < (le.length : Int) := by omega
    rw [ga_at hl0] at hcg
    have hg0 := Hgl.out 0 hl0
    have hs := Lib.hid (ho.set (k := 0) (x := ga le 0 + F) hl0)
    simp only [Nat.add_zero, fI] at hcg hfg hs
    generalize hx : ga le 0 = x at *
    have Hx := Lib.hid hx
    clear hx
    go_wp2_with fail
    go_region
    go_wp2_with fail
    go_ret
    rw [hfin.out]
    refine ⟨some ⟨g, og, none⟩, c1, by rw [List.length_set]; rfl, ?_, (hB.grown (only_set _) hB.size (fun k e => by simp at e; omega)).drew⟩
    exact hs.out.drew
  have hDp : 0 < D := by omega
  have hD1 : (D == 0) = false := by simpa using hD0
  have hqb : ∀ i, i < de.length → 0 ≤ shq F D de i ∧ shq F D de i ≤ F := fun i hi => shq_bd F D de i hDp hFb.1 (Hgd.out i hi).1 (Hgd.out i hi).2.2
  have hsb : ∀ k, k ≤ de.length → 0 ≤ qsum F D de k ∧ qsum F D de k ≤ 180 * k := by
    intro k
    induction k with
    | zero => intro _; simp [qsum]
    | succ k ih =>
      intro hk
      have h1 := ih (by omega)
      have h2 := hqb k (by omega)
      rw [qsum]
      omega
  have hleft := left_bd F D de HD.out hDp (by omega)
  have Hqb := Lib.hid hqb
  have Hsb := Lib.hid hsb
  have Hleft := Lib.hid hleft
  have hself : le = mapN le.length (fun i => if i < 0 then ga le i + shq F D de i else ga le i) := (mapN_self le).symm.trans (mapN_congr fun i hi => (if_neg (by omega)).symm)
  have ho0 : OwnO fI w4 w.heap.size 3 A1 c1 (mapN le.length (fun i => if i < 0 then ga le i + shq F D de i else ga le i)) := by rw [← hself]; exact ho
  have hmk : ∀ W, (Instr.makeSlice 22 (.int .i64 ((de.length : Nat) : Int)) (.int .i64 ((de.length : Nat) : Int))).run Try.prog W = .ok (.slice (some ⟨W.heap.size, 0, none⟩) de.length de.length) (W.alloc (.cells (List.replicate de.length (Value.int .i64 0)).toArray 3)) :=
    fun W => run_make_n (P := Try.prog) 22 3 i0 (Value.int .i64 0) Try.underlying22 hi0 hz0 hz1 rfl .i64 .i64 de.length de.length (Nat.le_refl _) (by omega) (by omega) W
  have hU : OwnO fN (w4.alloc (.cells (List.replicate de.length (Value.int .i64 0)).toArray 3)) w.heap.size 3 (some ⟨w4.heap.size, 0, none⟩) de.length (mapN de.length fun t => if t < 0 then t else 0) := by
    refine .inr ⟨w4.heap.size, 0, _, rfl, hw4, Blk.new _ _ _, by rw [mapN_length]; exact Nat.le_refl _, by simp [maxLen]; omega, by simp, fun i x hx => ?_⟩
    have hi : i < de.length := by
      have := (List.getElem?_eq_some_iff.mp hx).1
      rwa [mapN_length] at this
    rw [List.getElem?_eq_getElem (by rw [mapN_length]; exact hi), mapN_get] at hx
    simp at hx
    subst hx
    simp [hi]
  have hapU : Apart (some ⟨w4.heap.size, 0, none⟩) b8 b4 b9 A := fun b hb => by
    simp at hb
    subst hb
    have h2 := hbx.h8.lt
    have h3 := hbx.h4.lt
    have h4 := hbx.h9.lt
    refine ⟨by omega, by omega, by omega, fun b' o hA e => ?_⟩
    obtain ⟨b2, o2, e2, hc2⟩ := hbx.hd.at (k := 0) (by omega)
    rw [hA] at e2
    injection e2 with e2
    injection e2 with e2 e3
    subst e2 e3
    have := World.block_lt_of_cell? w4 _ hc2
    simp only at this
    omega
  have hsU : Sep A1 (some ⟨w4.heap.size, 0, none⟩) := fun b hb h2 => by
    have := (ho.lt b hb).2
    simp at h2
    omega
  have hbx5 := hbx.below ((Below.refl w4.heap.size w4).alloc (Nat.le_refl _) (.cells (List.replicate de.length (Value.int .i64 0)).toArray 3))
  have ho5 := ho0.alloc (.cells (List.replicate de.length (Value.int .i64 0)).toArray 3)
  have hB5 := hB.alloc hw4 (.cells (List.replicate de.length (Value.int .i64 0)).toArray 3)
  have k8b := hbx5.h8.cell 0
  have k4b := hbx5.h4.cell 0
  simp at k8b k4b
  clear hqb hsb hleft hself ho0 ho hbx hB k8
  go_wp2_with fail
  clear k8b k4b k9 hmk
  obtain ⟨gs, hgs⟩ : ∃ gs, gs = w4.heap.size := ⟨_, rfl⟩
  simp only [← hgs] at hU hapU hsU ⊢
  have hltU : w.heap.size ≤ gs := by omega
  clear hgs
  go_loopw [12, 69] (fun lf i wr => ∃ k : Nat, k ≤ de.length ∧ i = .int .i64 k ∧ lf = .int .i64 (F - qsum F D de k) ∧ OwnO fN wr w.heap.size 3 (some ⟨gs, 0, none⟩) de.length (mapN de.length fun t => if t < k then t else 0) ∧ OwnO fI wr w.heap.size 3 A1 c1 (mapN le.length fun i => if i < k then ga le i + shq F D de i else ga le i) ∧ SplBox wr b8 b4 b9 F D de A c ∧ Below w.heap.size w wr) (fun _ i _ => de.length - (intOf i).toNat)
  case atStart => exact ⟨0, Nat.zero_le _, rfl, by simp [qsum], hU, ho5, hbx5, hB5⟩
  case round =>
    clear hU ho5 hbx5 hB5
    obtain ⟨k, hk, rfl, rfl, hU, ho, hbx, hB⟩ := hrel
    by_cases hlt : k < de.length
    · obtain ⟨b1, o1, rfl, hcd⟩ := hbx.hd.at hlt
      rw [ga_at hlt] at hcd
      have hlt2 : k < le.length := by omega
      obtain ⟨g, og, rfl, hcg, hfg, hlog, hltg⟩ := ho.at (k := k) (by rw [mapN_length]; exact hlt2)
      rw [mapN_get, if_neg (by omega)] at hcg
      obtain ⟨gs', os', e, hcu, hfu, -, -⟩ := hU.at (k := k) (by rw [mapN_length]; exact hlt)
      injection e with e
      injection e with e e'
      subst e e'
      have hne : gs ≠ g := fun e => hsU g rfl (by rw [e]; rfl)
      have hU1 := hU.set (k := k) (x := k) (by rw [mapN_length]; exact hlt)
      rw [fill_step] at hU1
      have hg1 : wr.grownBy (wr.setCell ⟨gs, 0 + k, none⟩ (fN k)) (some gs) := only_set _
      have ho1 := ho.grown hg1 (by simpa using fun e => hne e.symm)
      have hbx1 := hbx.grown (B := some ⟨gs, 0, none⟩) hg1 hapU
      have hB1 := hB.grown hg1 hB.size (fun k e => by have := hltU; simp at e; omega)
      have hcg1 := hg1.cell hcg (by simpa using fun e => hne e.symm)
      have hfg1 : (wr.setCell ⟨gs, 0 + k, none⟩ (fN k)).frozen? ⟨g, og + k, none⟩ = false := by simpa using hfg
      have k8 := hbx1.h8.cell 0
      have k9 := hbx1.h9.cell 0
      simp at k8 k9
      simp only [Nat.zero_add, fN] at hcu hfu hU1 hg1 ho1 hbx1 hB1 hcg1 hfg1 k8 k9
      have HU := Lib.hid hU1
      have HO := Lib.hid ho1
      have HX := Lib.hid hbx1
      have HB := Lib.hid hB1
      clear hU ho hbx hB hU1 ho1 hbx1 hB1 hg1 hcg hfg
      have hq := Hqb.out k hlt
      have hp := Hpb.out k hlt
      have hsb := Hsb.out k hk
      have hgb := Hgl.out k hlt2
      have Hset : Hid (∀ W, OwnO fI W w.heap.size 3 (some ⟨g, og, none⟩) c1 (mapN le.length fun i => if i < k then ga le i + shq F D de i else ga le i) → OwnO fI (W.setCell ⟨g, og + k, none⟩ (.int .i64 (ga le k + shq F D de k))) w.heap.size 3 (some ⟨g, og, none⟩) c1 (mapN le.length fun i => if i < k + 1 then ga le i + shq F D de i else ga le i)) := Lib.hid fun W h => by
        have hs := h.set (k := k) (x := ga le k + shq F D de k) (by rw [mapN_length]; exact hlt2)
        rwa [split_step] at hs
      have Hq1 := Lib.hid (show qsum F D de (k + 1) = qsum F D de k + shq F D de k from rfl)
      have hshq := Lib.hid (show shq F D de k = F * ga de k / D from rfl)
      simp only [shq] at hq
      generalize hx : ga de k = x at *
      generalize hy : ga le k = y at *
      generalize hQ : qsum F D de k = Q at *
      simp only [fI] at hcd hcg1
      have HY := Lib.hid hy
      have HQ := Lib.hid hQ
      clear hx hy hQ
      go_wp2_with fail
      generalize wr.setCell ⟨gs, k, none⟩ (.int .i64 (k : Int)) = w6 at *
      have hg2 : w6.grownBy (w6.setCell ⟨g, og + k, none⟩ (.int .i64 (y + F * x / D))) (some g) := only_set _
      have ho2 := Hset.out w6 HO.out
      rw [hshq.out] at ho2
      have hU2 := (HU.out.grown hg2 (by simpa using hne)).drew
      have hbx2 := (HX.out.grown (B := some ⟨g, og, none⟩) hg2 hap).below (Below.refl _ _).drew
      have hB2 := (HB.out.grown hg2 HB.out.size (fun k e => by simp at e; omega)).drew
      have HU2 := Lib.hid hU2
      have HO2 := Lib.hid ho2.drew
      have HX2 := Lib.hid hbx2
      have HB2 := Lib.hid hB2
      clear hU2 ho2 hbx2 hB2 hg2 HU HO HX HB Hset
      go_region
      generalize (w6.setCell ⟨g, og + k, none⟩ (.int .i64 (y + F * x / D))).drew = w7 at *
      have e8 := HX2.out.h8.cell 0
      have e9 := HX2.out.h9.cell 0
      simp at e8 e9
      go_wp2_with fail
      go_roundw
      case rel => exact ⟨k + 1, by omega, by go_num, by rw [Hq1.out, hshq.out]; congr 1; omega, HU2.out, HO2.out, HX2.out, HB2.out⟩
      case measure => simp [intOf]; omega
    · obtain rfl : k = de.length := by omega
      go_wp2_with fail
      rw [show (mapN de.length fun t => if t < de.length then t else 0) = List.range de.length from (mapN_congr fun i hi => if_pos hi).trans (by simp [mapN])] at hU
      rw [show (mapN le.length fun i => if i < de.length then ga le i + shq F D de i else ga le i) = mapN le.length fun i => ga le i + shq F D de i + if i ∈ (srt (shr F D de) de.length).take 0 then 1 else 0 from mapN_congr fun i hi => by
        rw [if_pos (by have := Hn.out; omega)]; simp] at ho
      refine (stable_any F D de b8 b4 b9 A c de.length rfl (by omega) (by omega) hDp hDb.2 Hpb.out wr hbx w.heap.size (some ⟨gs, 0, none⟩) de.length hU hapU).mono ?_
      rintro e w7 ⟨rfl, hU7, hg7⟩
      replace ho := ho.grown hg7 hsU.symm.or
      replace hB := hB.grown hg7 hB.size (fun k e => by simp at e; have := hltU; omega)
      have hsrt := srt_srt (shr F D de) de.length
      obtain ⟨L, hL⟩ : ∃ L : Nat, F - qsum F D de de.length = (L : Int) := ⟨(F - qsum F D de de.length).toNat, by have := Hleft.out; omega⟩
      have hLl : L < de.length := by have := Hleft.out; omega
      have HL : Hid (luckS total de le = (srt (shr F D de) de.length).take L) := Lib.hid (by
        rw [luckS, leftS, ← HF.out, ← HD.out, hL]; rfl)
      rw [hL]
      obtain ⟨l, hl⟩ : ∃ l, l = srt (shr F D de) de.length := ⟨_, rfl⟩
      rw [← hl] at hU7 ho hsrt HL
      have hll : l.length = de.length := hsrt.length
      have Hsrt := Lib.hid hsrt
      have Hll := Lib.hid hll
      clear hl hL hsrt hll hU hbx hg7
      go_wp2_with fail
      go_loopw [104] (fun i wq => ∃ t : Nat, t ≤ L ∧ i = .int .i64 t ∧ OwnO fI wq w.heap.size 3 A1 c1 (mapN le.length fun i => ga le i + shq F D de i + if i ∈ l.take t then 1 else 0) ∧ OwnO fN wq w.heap.size 3 (some ⟨gs, 0, none⟩) de.length l ∧ Below w.heap.size w wq) (fun i _ => L - (intOf i).toNat)
      case atStart => exact ⟨0, Nat.zero_le _, rfl, ho, hU7, hB⟩
      case round =>
        clear ho hU7 hB
        obtain ⟨t, ht, rfl, ho, hU, hB⟩ := hrel
        by_cases hlt2 : t < L
        · have htl : t < l.length := by have := Hll.out; omega
          obtain ⟨gs', os', e, hcu, hfu, -, -⟩ := hU.at (k := t) htl
          injection e with e
          injection e with e e'
          subst e e'
          have hml : l[t] < de.length := Hsrt.out.mem.mp (List.getElem_mem htl)
          have Htk := Lib.hid (List.take_succ_eq_append_getElem htl)
          have hfr := Hsrt.out.fresh htl
          generalize l[t] = p at *
          have hpl : p < le.length := by omega
          obtain ⟨g, og, rfl, hcg, hfg, hlog, hltg⟩ := ho.at (k := p) (by rw [mapN_length]; exact hpl)
          rw [mapN_get, if_neg hfr] at hcg
          have hgb := Hgl.out p hpl
          have hqb := Hqb.out p hml
          have ho2 := ho.set (k := p) (x := ga le p + shq F D de p + 1) (by rw [mapN_length]; exact hpl)
          rw [luck_step _ _ _ _ _ Htk.out hfr] at ho2
          have hU2 := hU.grown (only_set (g := g) (k := og + p) (fI (ga le p + shq F D de p + 1))) hsU.or
          have hB2 := hB.grown (only_set (g := g) (k := og + p) (fI (ga le p + shq F D de p + 1))) hB.size (fun k e => by simp at e; omega)
          simp only [Nat.zero_add, Int.add_zero, fI, fN] at hcu hcg hfg ho2 hU2 hB2
          have HO := Lib.hid ho2
          have HU := Lib.hid hU2
          have HB := Lib.hid hB2
          clear ho hU hB ho2 hU2 hB2 hfr
          generalize ga le p = y at *
          generalize shq F D de p = q at *
          have hp0 : (p : Int) < (le.length : Int) := by omega
          go_wp2_with fail
          go_roundw
          case rel => exact ⟨t + 1, by omega, by go_num, HO.out, HU.out, HB.out⟩
          case measure => simp [intOf]; omega
        · obtain rfl : t = L := by omega
          have hfin : Hid (splitF total de le = mapN le.length fun i => ga le i + shq F D de i + if i ∈ l.take t then 1 else 0) := Lib.hid (by
            rw [splitF, if_pos Hv.out, if_neg (by rw [← HD.out]; omega), splitG, HL.out, ← HF.out, ← HD.out, Hn.out])
          have Ho := Lib.hid ho
          clear ho hU
          go_wp2_with fail
          go_ret
          rw [hfin.out]
          exact ⟨A1, c1, by rw [mapN_length]; rfl, Ho.out, hB⟩
end Go.Proofs.Ytknddadgmbkpnaa
