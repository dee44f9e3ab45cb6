/-
  SplitGreens: the sort of the stages by their rests.
-/
import Derived.Test.YtknddadgmbkpnaaSplSplit
import Derived.Test.YtknddadgmbkpnaaRegM
import Derived.BigRegion
namespace Go.Proofs.Ytknddadgmbkpnaa
open Go.RowKit
set_option linter.unusedVariables false

/-! ### insertion, in plain Lean -/
def cmpI (x y : Int) : Int := if x < y then -1 else if y < x then 1 else 0
def insAt (l : List Nat) (i j n : Nat) : List Nat := l.take j ++ i :: (l.drop j ++ List.range' (i + 1) (n - i - 1))
section
variable {l : List Nat} {i j n : Nat}
theorem insAt_length (hl : l.length = i) (hj : j ≤ i) (hn : i < n) : (insAt l i j n).length = n := by
  simp [insAt]; omega
theorem insAt_at (hl : l.length = i) (hj : j ≤ i) (hn : i < n) (h : j < (insAt l i j n).length) : (insAt l i j n)[j] = i := by
  simp only [insAt]
  rw [List.getElem_append_right (by simp; omega)]
  simp [show min j l.length = j by omega]
theorem insAt_before (hl : l.length = i) (hj : j + 1 ≤ i) (hn : i < n) (h : j < (insAt l i (j + 1) n).length) : (insAt l i (j + 1) n)[j] = l[j]'(by omega) := by
  simp only [insAt]
  rw [List.getElem_append_left (by simp; omega), List.getElem_take]
theorem insAt_end (hl : l.length = i) (hn : i < n) : insAt l i i n = l ++ List.range' i (n - i) := by
  have h1 : l.take i = l := by rw [← hl, List.take_length]
  have h2 : l.drop i = [] := by rw [← hl, List.drop_length]
  simp only [insAt, h1, h2, List.nil_append]
  obtain ⟨m, hm⟩ : ∃ m, n - i = m + 1 := ⟨n - i - 1, by omega⟩
  rw [hm, List.range'_succ, show m + 1 - 1 = m by omega]
theorem insAt_step (hl : l.length = i) (hj : j + 1 ≤ i) (hn : i < n) : ((insAt l i (j + 1) n).set (j + 1) (l[j]'(by omega))).set j i = insAt l i j n := by
  have hd : l.drop j = l[j]'(by omega) :: l.drop (j + 1) := List.drop_eq_getElem_cons (by omega)
  have ht : l.take (j + 1) = l.take j ++ [l[j]'(by omega)] := List.take_succ_eq_append_getElem (by omega)
  have hlt : (l.take j).length = j := by simp; omega
  have hltt : (l.take j ++ [l[j]'(by omega)]).length = j + 1 := by simp; omega
  simp only [insAt]
  rw [ht, hd]
  rw [List.set_append_right _ _ (by rw [hltt]; exact Nat.le_refl _), hltt, Nat.sub_self, List.set_cons_zero]
  rw [List.append_assoc, List.set_append_right _ _ (by rw [hlt]; exact Nat.le_refl _), hlt, Nat.sub_self]
  simp only [List.cons_append, List.set_cons_zero, List.nil_append]
/-- The last one of the first i + 1 stages has found its place. -/
theorem insAt_srt {r : Nat → Int} (h : Srt r i l) (hj : j ≤ i) (h1 : ∀ t (ht : t < l.length), j ≤ t → r l[t] < r i) (h2 : ∀ (hj0 : 0 < j) (ht : j - 1 < l.length), ¬ r l[j - 1] < r i) :
    Srt r (i + 1) (l.take j ++ i :: l.drop j) := by
  have hl := h.length
  have hp := List.pairwise_iff_getElem.mp h.2
  refine ⟨?_, ?_⟩
  · refine List.perm_middle.trans ?_
    rw [List.take_append_drop, List.range_succ]
    exact (h.1.cons i).trans (by simpa using (List.perm_append_comm (l₁ := [i]) (l₂ := List.range i)))
  · rw [List.pairwise_append]
    refine ⟨h.2.sublist (List.take_sublist _ _), List.Pairwise.cons ?_ (h.2.sublist (List.drop_sublist _ _)), ?_⟩
    · intro x hx
      obtain ⟨t, ht, rfl⟩ := List.getElem_of_mem hx
      rw [List.getElem_drop]
      exact .inl (h1 _ (by simp at ht; omega) (by omega))
    · intro x hx y hy
      obtain ⟨t, ht, e⟩ := List.mem_take_iff_getElem.mp hx
      have htl : t < l.length := by omega
      have htj : t < j := by omega
      subst e
      rcases List.mem_cons.mp hy with e0 | hy
      · rw [e0]
        have hlt : l[t] < i := h.mem.mp (List.getElem_mem htl)
        have h3 := h2 (by omega) (by omega)
        by_cases e : t = j - 1
        · subst e
          simp only [bef]; omega
        · have h4 := hp t (j - 1) htl (by omega) (by omega)
          simp only [bef] at h4 ⊢; omega
      · obtain ⟨u, hu, rfl⟩ := List.getElem_of_mem hy
        rw [List.getElem_drop]
        exact hp t (j + u) htl (by simp at hu; omega) (by omega)
end
theorem cmpI_neg {x y : Int} : cmpI x y < 0 ↔ x < y := by
  unfold cmpI
  split
  · omega
  · split <;> omega

abbrev fN : Nat → Value := fun n => Value.int .i64 (n : Int)

/-- What the comparison reads: three boxes and the demands. -/
structure SplBox (w : World) (b8 b4 b9 : Nat) (F D : Int) (de : List Int) (A : Option Addr) (c : Nat) : Prop where
  h8 : Blk w b8 3 #[.int .i64 F]
  h4 : Blk w b4 22 #[.slice A de.length c]
  h9 : Blk w b9 3 #[.int .i64 D]
  hd : RdL fI w A de
theorem SplBox.below {w w' : World} {b8 b4 b9 : Nat} {F D : Int} {de : List Int} {A : Option Addr} {c : Nat} (h : SplBox w b8 b4 b9 F D de A c) (hb : Below w.heap.size w w') : SplBox w' b8 b4 b9 F D de A c :=
  ⟨h.h8.below hb h.h8.lt, h.h4.below hb h.h4.lt, h.h9.below hb h.h9.lt, h.hd.below hb⟩
/-- The row that is written lies apart from the boxes and the demands. -/
def Apart (B : Option Addr) (b8 b4 b9 : Nat) (A : Option Addr) : Prop := ∀ b, blk B = some b → b8 ≠ b ∧ b4 ≠ b ∧ b9 ≠ b ∧ ∀ b' o, A = some ⟨b', o, none⟩ → b' ≠ b
theorem SplBox.grown {w w' : World} {b8 b4 b9 : Nat} {F D : Int} {de : List Int} {A B : Option Addr} {c : Nat} (h : SplBox w b8 b4 b9 F D de A c) (hg : w.grownBy w' (blk B)) (hs : Apart B b8 b4 b9 A) : SplBox w' b8 b4 b9 F D de A c :=
  ⟨h.h8.grown hg (fun e => (hs _ e.symm).1 rfl), h.h4.grown hg (fun e => (hs _ e.symm).2.1 rfl), h.h9.grown hg (fun e => (hs _ e.symm).2.2.1 rfl), h.hd.grown hg (fun b o hA e => (hs _ e.symm).2.2.2 b o hA rfl)⟩

theorem compare_any (x y : Int) (w : World) : Calls Try.prog 35 #[.int .i64 x, .int .i64 y] w fun e w' => e = .returned (.int .i64 (cmpI x y)) ∧ w' = w := by
  by_cases h1 : x < y
  · have H := Lib.hid (show cmpI x y = -1 by simp [cmpI, h1])
    go_enter Try.func35, Try.ntmps35
    go_wp2
    go_ret
    exact ⟨by rw [H.out]; rfl, rfl⟩
  · by_cases h2 : y < x
    · have H := Lib.hid (show cmpI x y = 1 by simp [cmpI, h1, h2])
      go_enter Try.func35, Try.ntmps35
      go_wp2
      go_ret
      exact ⟨by rw [H.out]; rfl, rfl⟩
    · have H := Lib.hid (show cmpI x y = 0 by simp [cmpI, h1, h2])
      go_enter Try.func35, Try.ntmps35
      go_wp2
      go_ret
      exact ⟨by rw [H.out]; rfl, rfl⟩

set_option maxHeartbeats 1600000 in
/-- The comparison of two stages. -/
theorem less_any (F D : Int) (de : List Int) (b8 b4 b9 : Nat) (A : Option Addr) (c : Nat) (x y : Nat) (hx : x < de.length) (hy : y < de.length) (hD : 0 < D) (hD2 : D ≤ 5000) (hp : ∀ i, i < de.length → 0 ≤ F * ga de i ∧ F * ga de i ≤ 180000) (w : World) (hb : SplBox w b8 b4 b9 F D de A c) :
    Calls Try.prog 34 #[.int .i64 (x : Int), .int .i64 (y : Int), .pointer (some ⟨b8, 0, none⟩), .pointer (some ⟨b4, 0, none⟩), .pointer (some ⟨b9, 0, none⟩)] w fun e w' => e = .returned (.int .i64 (cmpI (shr F D de y) (shr F D de x))) ∧ ∃ q, w' = w.drewN q := by
  obtain ⟨h8, h4, h9, hd⟩ := hb
  obtain ⟨b, o, rfl, hcx⟩ := hd.at hx
  obtain ⟨b', o', e, hcy⟩ := hd.at hy
  injection e with e
  injection e with e e'
  subst e e'
  rw [ga_at hx] at hcx
  rw [ga_at hy] at hcy
  obtain ⟨px, px'⟩ := hp x hx
  obtain ⟨py, py'⟩ := hp y hy
  have Hx := Lib.hid (show shr F D de x = F * ga de x % D from rfl)
  have Hy := Lib.hid (show shr F D de y = F * ga de y % D from rfl)
  have hcon := fun W => compare_any (F * ga de y % D) (F * ga de x % D) W
  have k8 := h8.cell 0
  have k4 := h4.cell 0
  have k9 := h9.cell 0
  simp at k8 k4 k9
  have hlx : (x : Int) < (de.length : Int) := by omega
  have hly : (y : Int) < (de.length : Int) := by omega
  generalize ga de x = u at *
  generalize ga de y = v at *
  simp only [fI] at hcx hcy
  clear hp hd h8 h4 h9
  go_enter Try.func34, Try.ntmps34
  go_wp2_with fail
  go_quiet (first | (go_at_call 35; refine Calls.quiet_of_same (hcon _)))
  go_wp2_with fail
  go_ret
  exact ⟨by rw [Hx.out, Hy.out]; rfl, _, rfl⟩

set_option maxHeartbeats 3200000 in
/-- slices.insertionSortCmpFunc over all stages. -/
theorem insort_any (F D : Int) (de : List Int) (b8 b4 b9 : Nat) (A : Option Addr) (c : Nat) (n : Nat) (hn : n = de.length) (hn0 : 0 < n) (hn5 : n ≤ 5) (hD : 0 < D) (hD2 : D ≤ 5000) (hp : ∀ i, i < de.length → 0 ≤ F * ga de i ∧ F * ga de i ≤ 180000) (w : World) (hb : SplBox w b8 b4 b9 F D de A c)
    (lo : Nat) (B : Option Addr) (d : Nat) (ho : OwnO fN w lo 3 B d (List.range n)) (hs : Apart B b8 b4 b9 A) :
    Calls Try.prog 43 #[.slice B n d, .int .i64 0, .int .i64 (n : Int), .func (.func 34) #[] #[.pointer (some ⟨b8, 0, none⟩), .pointer (some ⟨b4, 0, none⟩), .pointer (some ⟨b9, 0, none⟩)]] w fun e w' =>
      e = .returned (.tuple #[]) ∧ OwnO fN w' lo 3 B d (srt (shr F D de) n) ∧ w.grownBy w' (blk B) := by
  obtain ⟨g, o, rfl, -, -, -, -⟩ := ho.at (k := 0) (by simpa using hn0)
  have hless := Lib.hid (fun x y hx hy w hb => less_any F D de b8 b4 b9 A c x y hx hy hD hD2 hp w hb)
  have hfin := Lib.hid (fun l (h : Srt (shr F D de) n l) => h.unique (srt_srt (shr F D de) n))
  have hstart : Srt (shr F D de) 1 [0] := ⟨.refl _, by simp⟩
  have ho1 : OwnO fN w lo 3 (some ⟨g, o, none⟩) d ([0] ++ List.range' 1 (n - 1)) := by
    have e : List.range n = [0] ++ List.range' 1 (n - 1) := by
      obtain ⟨m, rfl⟩ : ∃ m, n = m + 1 := ⟨n - 1, by omega⟩
      rw [List.range_eq_range', List.range'_succ]; rfl
    rw [← e]; exact ho
  have HS := Lib.hid hs
  have Hn := Lib.hid hn
  clear hs hn hp ho
  go_enter Try.func43, Try.ntmps43
  go_wp2_with fail
  go_loopw [8] (fun vi wr => ∃ i : Nat, 1 ≤ i ∧ i ≤ n ∧ vi = .int .i64 i ∧ (∃ l, Hid (Srt (shr F D de) i l) ∧ OwnO fN wr lo 3 (some ⟨g, o, none⟩) d (l ++ List.range' i (n - i))) ∧ w.grownBy wr (some g) ∧ SplBox wr b8 b4 b9 F D de A c) (fun vi _ => n - (intOf vi).toNat)
  case atStart => exact ⟨1, Nat.le_refl _, hn0, rfl, ⟨[0], Lib.hid hstart, ho1⟩, only_refl _ _, hb⟩
  case round =>
    clear hb ho1 hstart
    obtain ⟨i, hi1, hin, rfl, ⟨l, hl, ho⟩, hG, hb⟩ := hrel
    by_cases hlt : i < n
    case neg =>
      obtain rfl : i = n := by omega
      have h1 := hfin.out l hl.out
      rw [Nat.sub_self, List.range'_zero, List.append_nil, h1] at ho
      have Ho := Lib.hid ho
      clear ho h1
      go_wp2_with fail
      go_end0
      exact ⟨rfl, Ho.out, hG⟩
    have hll : l.length = i := hl.out.length
    rw [← insAt_end hll hlt] at ho
    have Hll := Lib.hid hll
    clear hll
    go_wp2_with fail
    go_loopw [9] (fun vj wq => ∃ j : Nat, j ≤ i ∧ vj = .int .i64 j ∧ Hid (∀ t (ht : t < l.length), j ≤ t → shr F D de l[t] < shr F D de i) ∧ OwnO fN wq lo 3 (some ⟨g, o, none⟩) d (insAt l i j n) ∧ w.grownBy wq (some g) ∧ SplBox wq b8 b4 b9 F D de A c) (fun vj _ => (intOf vj).toNat)
    case atStart => exact ⟨i, Nat.le_refl _, rfl, Lib.hid (fun t ht h => by have := Hll.out; omega), ho, hG, hb⟩
    case round =>
      clear ho hG hb
      obtain ⟨j, hji, rfl, hafter, ho, hG, hb⟩ := hrel
      have hend : Hid ((∀ (hj0 : 0 < j) (ht : j - 1 < l.length), ¬ shr F D de l[j - 1] < shr F D de i) → ∃ l', Hid (Srt (shr F D de) (i + 1) l') ∧ insAt l i j n = l' ++ List.range' (i + 1) (n - (i + 1))) := Lib.hid fun h =>
        ⟨_, Lib.hid (insAt_srt hl.out hji hafter.out h), by simp [insAt, Nat.sub_sub]⟩
      by_cases hj0 : j = 0
      · subst hj0
        obtain ⟨l', hl', he⟩ := hend.out (fun h => by omega)
        rw [he] at ho
        clear he hend
        go_wp2_with fail
        go_quiet (fail)
        go_wp2_with fail
        exact ⟨⟨i + 1, by omega, by omega, by go_num, ⟨l', hl', ho.below (below_drewN (Below.refl _ _) _)⟩, only_drewN hG _, hb.below (below_drewN (Below.refl _ _) _)⟩, by simp [intOf]; omega⟩
      obtain ⟨p, rfl⟩ : ∃ p, j = p + 1 := ⟨j - 1, by omega⟩
      have hpl : p < l.length := by have := Hll.out; omega
      have hln := Lib.hid (insAt_length Hll.out hji hlt)
      obtain ⟨g', o', e, hc1, hf1, -, -⟩ := ho.at (k := p + 1) (by rw [hln.out]; omega)
      injection e with e
      injection e with e e'
      subst e e'
      obtain ⟨g', o', e, hc2, hf2, -, -⟩ := ho.at (k := p) (by rw [hln.out]; omega)
      injection e with e
      injection e with e e'
      subst e e'
      rw [insAt_at Hll.out hji hlt] at hc1
      rw [insAt_before Hll.out hji hlt] at hc2
      have hset : Hid (∀ W, OwnO fN W lo 3 (some ⟨g, o, none⟩) d (insAt l i (p + 1) n) → OwnO fN ((W.setCell ⟨g, o + (p + 1), none⟩ (.int .i64 ((l[p] : Nat) : Int))).setCell ⟨g, o + p, none⟩ (.int .i64 (i : Int))) lo 3 (some ⟨g, o, none⟩) d (insAt l i p n)) := Lib.hid fun W h => by
        have hs1 := h.set (k := p + 1) (x := l[p]) (by rw [hln.out]; omega)
        have hs2 := hs1.set (k := p) (x := i) (by simp [hln.out]; omega)
        rwa [insAt_step Hll.out hji hlt] at hs2
      have hxp : l[p] < n := by have := hl.out.mem.mp (List.getElem_mem hpl); omega
      have hcon := fun m => hless.out i l[p] (by rw [← Hn.out]; exact hlt) (by rw [← Hn.out]; exact hxp) (wr.drewN m) (hb.below (below_drewN (Below.refl _ _) _))
      have hgo : Hid (shr F D de l[p] < shr F D de i → ∀ t (ht : t < l.length), p ≤ t → shr F D de l[t] < shr F D de i) := Lib.hid fun h t ht h2 => by
        by_cases e : t = p
        · subst e; exact h
        · exact hafter.out t ht (by omega)
      have hend2 : Hid (¬ shr F D de l[p] < shr F D de i → ∃ l', Hid (Srt (shr F D de) (i + 1) l') ∧ insAt l i (p + 1) n = l' ++ List.range' (i + 1) (n - (i + 1))) := Lib.hid fun h => hend.out (fun _ _ => h)
      obtain ⟨z, hz⟩ : ∃ z, z = cmpI (shr F D de l[p]) (shr F D de i) := ⟨_, rfl⟩
      rw [← hz] at hcon
      have hzi : z < 0 ↔ shr F D de l[p] < shr F D de i := by rw [hz]; exact cmpI_neg
      have Hzi := Lib.hid hzi
      clear hz hzi hend
      generalize l[p] = x at *
      obtain ⟨j1, hj1⟩ : ∃ j1, j1 = o + (p + 1) := ⟨_, rfl⟩
      obtain ⟨j2, hj2⟩ : ∃ j2, j2 = o + p := ⟨_, rfl⟩
      have hw1 : IntKind.i64.wrap ((p : Int) + 1 - 1) = (p : Int) := by simp [IntKind.wrap, IntKind.bits, IntKind.signed]; omega
      have hw2 : IntKind.i64.wrap ((p : Int) + 1) = (p : Int) + 1 := by simp [IntKind.wrap, IntKind.bits, IntKind.signed]; omega
      have hw3 : IntKind.i64.wrap (p : Int) = (p : Int) := by simp [IntKind.wrap, IntKind.bits, IntKind.signed]; omega
      have hg1 : decide ((p : Int) + 1 > 0) = true := decide_eq_true (by omega)
      have hg2 : (0 : Int) < (p : Int) + 1 := by omega
      have hp0 : (0 : Int) ≤ (p : Int) + 1 := by omega
      have hp1 : (p : Int) + 1 < (n : Int) := by omega
      have hp2 : (p : Int) < (n : Int) := by omega
      have hn1 : ((p : Int) + 1).toNat = p + 1 := by omega
      simp only [fN] at hc1 hc2
      by_cases hzn : z < 0
      · have hd1 : decide (z < 0) = true := by simpa using hzn
        go_wp2_with fail
        go_quiet (first | (go_at_call 34; refine Calls.quiet_of (hcon _)))
        go_wp2_with fail
        have hG2 := only_drewN hG nq
        have hb2 := hb.below (below_drewN (Below.refl _ _) nq)
        have ho2 := ho.below (below_drewN (Below.refl _ _) nq)
        have hk1 : (wr.drewN nq).cell? ⟨g, o + (p + 1), none⟩ = some (.int .i64 (i : Int)) := hc1
        have hk2 : (wr.drewN nq).cell? ⟨g, o + p, none⟩ = some (.int .i64 (x : Int)) := hc2
        have hk3 : (wr.drewN nq).frozen? ⟨g, o + (p + 1), none⟩ = false := hf1
        have hk4 : (wr.drewN nq).frozen? ⟨g, o + p, none⟩ = false := hf2
        clear hcon hc1 hc2 hf1 hf2 ho hb hG
        generalize wr.drewN nq = w2 at *
        have e5 : (w2.setCell ⟨g, o + (p + 1), none⟩ (.int .i64 (x : Int))).cell? ⟨g, o + p, none⟩ = some (.int .i64 (x : Int)) := by
          rw [World.cell?_setCell_other _ _ _ _ (fun e => by injection e; omega)]
          exact hk2
        have hgo' := Lib.hid (hgo.out (Hzi.out.mp hzn))
        clear hgo Hzi hend2 hafter
        go_region
        go_wp2_with fail
        have hg3 := only_trans (only_set (w := w2) (g := g) (k := o + (p + 1)) (.int .i64 (x : Int))) (only_set (g := g) (k := o + p) (.int .i64 (i : Int)))
        exact ⟨⟨p, by omega, rfl, hgo', (hset.out _ ho2).drew, only_drew (only_trans hG2 hg3), (hb2.grown (B := some ⟨g, o, none⟩) hg3 HS.out).below (Below.refl _ _).drew⟩, by simp [intOf]⟩
      · have hd1 : decide (z < 0) = false := by simpa using hzn
        obtain ⟨l', hl', he⟩ := hend2.out (fun h => hzn (Hzi.out.mpr h))
        rw [he] at ho
        clear he hend2 hgo Hzi
        go_wp2_with fail
        go_quiet (first | (go_at_call 34; refine Calls.quiet_of (hcon _)))
        go_wp2_with fail
        exact ⟨⟨i + 1, by omega, by omega, by go_num, ⟨l', hl', ho.below (below_drewN (Below.refl _ _) _)⟩, only_drewN hG _, hb.below (below_drewN (Below.refl _ _) _)⟩, by simp [intOf]; omega⟩
end Go.Proofs.Ytknddadgmbkpnaa
