/-
  Plans as data: marks.
-/
import Derived.Test.YtcckipckgnkieaaPlSt5
namespace Go.Proofs.Ytcckipckgnkieaa
open Go.RowKit
set_option linter.unusedVariables false

theorem totP_mono (p : Pl) {j n : Nat} (h : j ≤ n) : totP p j ≤ totP p n := by
  induction n with
  | zero =>
    obtain rfl : j = 0 := by omega
    exact Nat.le_refl _
  | succ n ih =>
    by_cases e : j ≤ n
    · exact Nat.le_trans (ih e) (Nat.le_add_right _ _)
    · obtain rfl : j = n + 1 := by omega
      exact Nat.le_refl _
theorem Mid.trans {lo hi : Nat} {a b c : World} (h : Mid lo hi a b) (k : Mid lo hi b c) : Mid lo hi a c :=
  ⟨k.1.trans h.1, k.2.1.trans h.2.1, k.2.2.1.trans h.2.2.1, Nat.le_trans h.2.2.2.1 k.2.2.2.1, fun x hx hor => (k.2.2.2.2 x (Nat.lt_of_lt_of_le hx h.2.2.2.1) hor).trans (h.2.2.2.2 x hx hor)⟩
theorem Mid.wide {lo hi lo' hi' : Nat} {a b : World} (h : Mid lo hi a b) (h1 : lo' ≤ lo) (h2 : hi ≤ hi') : Mid lo' hi' a b :=
  ⟨h.1, h.2.1, h.2.2.1, h.2.2.2.1, fun x hx hor => h.2.2.2.2 x hx (by omega)⟩

theorem row_sep {w : World} {lo lo' g n cap c : Nat} {A : Option Addr} {xs : List Int} {L : List Value} (hst : w.ownsRow lo' 79 2 (.slice (some ⟨g, 0, none⟩) n cap) n L) (h2 : OwnO fI w lo 3 A c xs) : blk A = none ∨ blk A ≠ some g := by
  rcases h2 with ⟨rfl, _⟩ | ⟨g1, o1, cur, rfl, _, hb, _⟩
  · exact .inl rfl
  refine .inr fun e2 => ?_
  have e3 : g1 = g := by simpa using e2
  subst e3
  rcases hst.2 with ⟨h1, _⟩ | ⟨g2, cap2, cur2, hv, _, hb2, _⟩
  · simp at h1
  · injection hv with e4
    injection e4 with e4
    injection e4 with e4
    subst e4
    unfold Blk at hb
    rw [hb] at hb2
    injection hb2 with e
    injection e with _ e2
    exact absurd e2 (by decide)
set_option maxRecDepth 100000 in
set_option maxHeartbeats 1600000 in
theorem markStageS_any (p : Pl) (S : Option Addr) (d lo hi : Nat) (k : Int) (w : World) (hO : OwnH w lo hi S d p.sg) (hhi : hi ≤ w.heap.size) (hn : p.sg.length ≤ 2000000) (ht : totP p p.sg.length ≤ 2000000) (hk0 : 0 ≤ k) (hk : k ≤ 100000000) :
    Calls Try.prog 50 #[.slice S p.sg.length d, .int .i64 k] w fun e w' => (∃ v, e = .returned (.int .i64 v) ∧ 0 ≤ v) ∧ Mid lo hi w w' := by
  obtain ⟨qs, hst, hSh, hR⟩ := hO
  have hql := hR.len
  have hrow : ∀ (i : Nat) (q : Hd), qs[i]? = some q → q.2.1 = (ph p i).length ∧ OwnO fI w lo 3 q.1 q.2.2.1 (ph p i) ∧ ∀ b, blk q.1 = some b → b < hi := fun i q hq => by
    have hi1 : i < qs.length := (List.getElem?_eq_some_iff.1 hq).1
    have hi2 : i < p.sg.length := by omega
    have h1 := hR.1.2.1 i (hd3 q) (ph p i) (by simp [hq]) (by simp [hi2, ph])
    exact h1
  have hsep : ∀ (i j : Nat) (q r : Hd), i ≠ j → qs[i]? = some q → qs[j]? = some r → Sep q.1 r.1 := fun i j q r hij hq hr => hR.1.2.2 i j (hd3 q) (hd3 r) hij (by simp [hq]) (by simp [hr])
  have hst0 : w.ownsRow lo 79 2 (.slice S p.sg.length d) p.sg.length (flatS qs) := by rw [← hql]; exact hst
  have hcell0 : ∀ (i : Nat) (q : Hd), 0 ≤ i → qs[i]? = some q → (flatS qs)[i * 2]? = some (.slice q.1 q.2.1 q.2.2.1) := fun i q _ hq => (flatS_at hq).1
  have hfl := flatS_length qs
  obtain ⟨L0, hL0⟩ : ∃ L0, L0 = flatS qs := ⟨_, rfl⟩
  rw [← hL0] at hst0 hcell0 hfl
  clear hst hL0
  have Hql := Lib.hid hql
  have hrow0 : ∀ (i : Nat) (q : Hd), 0 ≤ i → qs[i]? = some q → OwnO fI w lo 3 q.1 q.2.2.1 (ph p i) := fun i q _ hq => (hrow i q hq).2.1
  have hrl : ∀ (i : Nat) (q : Hd), qs[i]? = some q → q.2.1 = (ph p i).length ∧ ∀ b, blk q.1 = some b → b < hi := fun i q hq => ⟨(hrow i q hq).1, (hrow i q hq).2.2⟩
  clear hR hrow hfl hql
  go_enter Try.func50, Try.ntmps50
  go_wp2_with fail
  go_loopw [1, 5] (fun v1 vi wr => ∃ j : Nat, j ≤ p.sg.length ∧ vi = .int .i64 j ∧ (∃ u, v1 = .int .i64 u ∧ 0 ≤ u ∧ Hid (u = k + totP p j + j)) ∧ (∃ L, wr.ownsRow lo 79 2 (.slice S p.sg.length d) p.sg.length L ∧ ∀ (i : Nat) (q : Hd), j ≤ i → qs[i]? = some q → L[i * 2]? = some (.slice q.1 q.2.1 q.2.2.1)) ∧ (∀ (i : Nat) (q : Hd), j ≤ i → qs[i]? = some q → OwnO fI wr lo 3 q.1 q.2.2.1 (ph p i)) ∧ Mid lo hi w wr) (fun _ vi _ => p.sg.length - (intOf vi).toNat)
  case atStart => exact ⟨0, Nat.zero_le _, rfl, ⟨_, rfl, hk0, Lib.hid (by simp [totP])⟩, ⟨L0, hst0, hcell0⟩, hrow0, Mid.refl _ _ _⟩
  case round =>
    clear hst0 hcell0 hrow0
    obtain ⟨j, hj, rfl, ⟨u, rfl, hu0, hu⟩, ⟨L, hst, hcell⟩, hrow, hM⟩ := hrel
    by_cases hlt : j < p.sg.length
    · obtain ⟨q, hq⟩ : ∃ q, qs[j]? = some q := ⟨_, List.getElem?_eq_getElem (by have := Hql.out; omega)⟩
      obtain ⟨e1, e2⟩ := hrl j q hq
      have ho := hrow j q (Nat.le_refl _) hq
      have hc := hcell j q (Nat.le_refl _) hq
      rw [e1] at hc
      obtain ⟨g, rfl, hgl⟩ : ∃ g, S = some ⟨g, 0, none⟩ ∧ lo ≤ g := by
        rcases hst.2 with ⟨_, h0⟩ | ⟨g, cap, cur, hv, hl, _⟩
        · omega
        · injection hv with e; exact ⟨g, e, hl⟩
      have hx := (World.ownsRow.cellAt hst (j * 2) (by omega)).trans hc
      have htm := totP_mono p (show j + 1 ≤ p.sg.length from hlt)
      have Hts := Lib.hid (show totP p (j + 1) = totP p j + (ph p j).length from rfl)
      have hpl : (ph p j).length ≤ 2000000 := by have := Hts.out; omega
      have hul : u + (ph p j).length + 1 ≤ 200000000 := by have := Hts.out; have := hu.out; omega
      have hgh := hSh g rfl
      have hmk := markIntS_any (ph p j) q.1 q.2.2.1 lo u wr ho hpl hu0 (by omega)
      have hal := ho.lt
      have hlen := hst.1
      have Hcell := Lib.hid hcell
      have Hrow := Lib.hid hrow
      have Hst := Lib.hid hst
      have HM := Lib.hid hM
      clear hcell hrow hst hM hc
      go_wp2_with fail
      refine hmk.mono ?_
      rintro e w5 ⟨rfl, m5, g5⟩
      have hrs := row_sep Hst.out ho
      have hst5 := World.ownsRow.kept Hst.out g5 (by
        rw [ownBlock_slice]
        rcases hrs with h | h
        · right; rw [h]; simp
        · right; exact fun e => h (by rw [← e]; rfl))
      have y0 : w5.cell? ⟨g, j * 2 + 1, none⟩ = L[j * 2 + 1]? := World.ownsRow.cellAt hst5 (j * 2 + 1) (by omega)
      have yf := World.ownsRow.frozenAt hst5 (j * 2 + 1)
      have hjl : j * 2 + 1 < L.length := by omega
      rw [List.getElem?_eq_getElem hjl] at y0
      have hM5 := HM.out.grown g5 (fun x hx => ⟨(hal x hx).1, e2 x hx⟩)
      have hrow5 : ∀ (i : Nat) (r : Hd), j + 1 ≤ i → qs[i]? = some r → OwnO fI w5 lo 3 r.1 r.2.2.1 (ph p i) := fun i r hi hr => (Hrow.out i r (by omega) hr).grown g5 (hsep j i q r (by omega) hq hr).or
      obtain ⟨s1, g1⟩ := World.ownsRow.stored hst5 (j * 2 + 1) (.int .i64 (u + ((ph p j).length : Int)))
      have HM6 := Lib.hid (hM5.grown g1 (fun x hx => by injection hx with hx; subst hx; exact ⟨hgl, hgh⟩))
      have Hrow6 := Lib.hid (fun (i : Nat) (r : Hd) (hi : j + 1 ≤ i) (hr : qs[i]? = some r) => (hrow5 i r hi hr).grown g1 (row_sep hst5 (hrow5 i r hi hr)))
      have Hst6 := Lib.hid s1
      have Hcell6 : Hid (∀ (i : Nat) (r : Hd), j + 1 ≤ i → qs[i]? = some r → (L.set (j * 2 + 1) (.int .i64 (u + ((ph p j).length : Int))))[i * 2]? = some (.slice r.1 r.2.1 r.2.2.1)) := Lib.hid fun i r hi hr => by
        rw [List.getElem?_set_ne (by omega)]
        exact Hcell.out i r (by omega) hr
      have Hu6 := Lib.hid (show u + ((ph p j).length : Int) + 1 = k + totP p (j + 1) + ((j + 1 : Nat) : Int) by have := Hts.out; have := hu.out; omega)
      generalize L[j * 2 + 1] = z at y0
      clear hmk Hcell Hrow Hst HM hst5 hM5 hrow5 s1 g1 g5 m5 ho hal hx hrs
      go_wp2_with fail
      go_roundw
      case rel => exact ⟨j + 1, by omega, by go_num, ⟨_, rfl, by omega, Hu6⟩, ⟨_, Hst6.out, Hcell6.out⟩, Hrow6.out, HM6.out⟩
      case measure => simp [intOf]; omega
    · obtain rfl : j = p.sg.length := by omega
      go_wp2_with fail
      go_ret
      exact ⟨⟨_, rfl, hu0⟩, hM⟩
set_option maxRecDepth 100000 in
set_option maxHeartbeats 1600000 in
theorem markPlan_any (p : Pl) (C S : Option Addr) (c d lo hi : Nat) (k : Int) (w : World) (hO : OwnQ w lo hi C c S d p) (hhi : hi ≤ w.heap.size) (h1 : p.tb.length ≤ 2000000) (h2 : tot p.tb ≤ 2000000) (hn : p.sg.length ≤ 2000000) (ht : totP p p.sg.length ≤ 2000000) (hk0 : 0 ≤ k) (hk : k ≤ 10000000) :
    Calls Try.prog 21 #[plV p C c S d, .int .i64 k] w fun e w' => (∃ v, e = .returned (.int .i64 v) ∧ 0 ≤ v) ∧ Mid lo hi w w' := by
  obtain ⟨m, e1, e2, hC, hS⟩ := hO
  have bx := Blk.new w 26 (plC p C c S d)
  have hB := (Below.refl w.heap.size w).alloc (Nat.le_refl _) (.cells (plC p C c S d) 26)
  have hM := (Mid.refl lo hi w).below hB
  have hC1 := hC.alloc (.cells (plC p C c S d) 26)
  have hS1 := hS.below hB
  have hz := hB.size
  go_enter Try.func21, Try.ntmps21
  go_wp2_with fail
  clear hC hS hB
  generalize w.alloc (.cells (plC p C c S d) 26) = W at *
  refine (markIntSS_any p.tb C c lo m k W hC1 (by omega) h1 h2 hk0 (by omega)).mono ?_
  rintro e w2 ⟨rfl, m2, g2⟩
  have hS2 : OwnH w2 m hi S d p.sg := hS1.block fun b q1 q2 => g2.2.2.2.2 b (by omega) (.inr q1)
  have bx2 := bx.mid g2 (.inr (by omega))
  have k1 : w2.cell? ⟨w.heap.size, 1, none⟩ = some (.slice S p.sg.length d) := bx2.cell 1
  have hM2 := hM.trans (g2.wide (Nat.le_refl _) e2)
  have hz2 := hM2.2.2.2.1
  have hb2 : k + (tot p.tb : Int) ≤ 100000000 := by omega
  have hb0 : 0 ≤ k + (tot p.tb : Int) := by omega
  clear m2 g2 hS1 hC1 bx bx2 hM
  go_wp2_with fail
  refine (markStageS_any p S d m hi (k + (tot p.tb : Int)) w2 hS2 (by omega) hn ht hb0 hb2).mono ?_
  rintro e w3 ⟨⟨v, rfl, hv⟩, m3⟩
  have hM3 := hM2.trans (m3.wide e1 (Nat.le_refl _))
  clear m3 hM2 hS2 k1
  go_wp2_with fail
  go_ret
  exact ⟨⟨v, rfl, hv⟩, hM3⟩
end Go.Proofs.Ytcckipckgnkieaa
