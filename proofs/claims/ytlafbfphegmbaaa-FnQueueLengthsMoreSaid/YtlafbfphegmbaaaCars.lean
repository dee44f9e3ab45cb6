/-
  carTimes: the program's queue of cars, second by second.
-/
import Derived.Test.YtlafbfphegmbaaaQu
namespace Go.Proofs.Ytlafbfphegmbaaa
open Go.RowKit
set_option linter.unusedVariables false

/-- The three lists of carTimes, each in a block of its own. -/
structure Three (w : World) (lo : Nat) (A6 A7 A8 : Option Addr) (c6 c7 c8 : Nat) (q g d : List Int) : Prop where
  o6 : OwnO fI w lo 3 A6 c6 q
  o7 : OwnO fI w lo 3 A7 c7 g
  o8 : OwnO fI w lo 3 A8 c8 d
  s67 : Sep A6 A7
  s68 : Sep A6 A8
  s78 : Sep A7 A8
section
variable {w w2 : World} {lo : Nat} {A6 A7 A8 A' : Option Addr} {c6 c7 c8 c' : Nat} {q g d xs : List Int} {o : Obj}
theorem Three.push6 (h : Three w lo A6 A7 A8 c6 c7 c8 q g d) (ho : OwnO fI w2 lo 3 A' c' xs) (hg : (w.alloc o).grownBy w2 (blk A6)) (hb : blk A' = blk A6 ∨ ∀ b, blk A' = some b → (w.alloc o).heap.size ≤ b) :
    Three w2 lo A' A7 A8 c' c7 c8 xs g d :=
  ⟨ho, (h.o7.alloc o).grown hg h.s67.or, (h.o8.alloc o).grown hg h.s68.or, h.s67.push (fun b hb => ((h.o7.alloc o).lt b hb).2) hb, h.s68.push (fun b hb => ((h.o8.alloc o).lt b hb).2) hb, h.s78⟩
theorem Three.push7 (h : Three w lo A6 A7 A8 c6 c7 c8 q g d) (ho : OwnO fI w2 lo 3 A' c' xs) (hg : (w.alloc o).grownBy w2 (blk A7)) (hb : blk A' = blk A7 ∨ ∀ b, blk A' = some b → (w.alloc o).heap.size ≤ b) :
    Three w2 lo A6 A' A8 c6 c' c8 q xs d :=
  ⟨(h.o6.alloc o).grown hg h.s67.symm.or, ho, (h.o8.alloc o).grown hg h.s78.or, (h.s67.symm.push (fun b hb => ((h.o6.alloc o).lt b hb).2) hb).symm, h.s68, h.s78.push (fun b hb => ((h.o8.alloc o).lt b hb).2) hb⟩
theorem Three.push8 (h : Three w lo A6 A7 A8 c6 c7 c8 q g d) (ho : OwnO fI w2 lo 3 A' c' xs) (hg : (w.alloc o).grownBy w2 (blk A8)) (hb : blk A' = blk A8 ∨ ∀ b, blk A' = some b → (w.alloc o).heap.size ≤ b) :
    Three w2 lo A6 A7 A' c6 c7 c' q g xs :=
  ⟨(h.o6.alloc o).grown hg h.s68.symm.or, (h.o7.alloc o).grown hg h.s78.symm.or, ho, h.s67, (h.s68.symm.push (fun b hb => ((h.o6.alloc o).lt b hb).2) hb).symm, (h.s78.symm.push (fun b hb => ((h.o7.alloc o).lt b hb).2) hb).symm⟩
end

theorem blk_tail (A : Option Addr) (c : Nat) : blk (if c = 1 then A else A.map (·.add 1)) = blk A := by
  split
  · rfl
  · cases A <;> simp [Addr.add]
theorem Three.tail {w : World} {lo : Nat} {A6 A7 A8 : Option Addr} {c6 c7 c8 : Nat} {q g d : List Int} {z : Int} (h : Three w lo A6 A7 A8 c6 c7 c8 (z :: q) g d) :
    Three w lo (if c6 = 1 then A6 else A6.map (·.add 1)) A7 A8 (c6 - 1) c7 c8 q g d :=
  ⟨h.o6.tail.1, h.o7, h.o8, fun b h1 h2 => h.s67 b (by rw [← blk_tail A6 c6]; exact h1) h2, fun b h1 h2 => h.s68 b (by rw [← blk_tail A6 c6]; exact h1) h2, h.s78⟩

/-- What carTimes hands back. -/
def CarPost (w : World) (g d : List Int) (e : Ending) (w' : World) : Prop :=
  ∃ A7 A8 c7 c8, e = .returned (.tuple #[.slice A7 g.length c7, .slice A8 d.length c8]) ∧ OwnO fI w' w.heap.size 3 A7 c7 g ∧ OwnO fI w' w.heap.size 3 A8 c8 d ∧ Sep A7 A8 ∧ Below w.heap.size w w'

set_option maxHeartbeats 1600000 in
theorem carTimes_yes (ar : List Int) (gr : List Bool) (A B : Option Addr) (c d : Nat) (w : World) (ha : RdL fI w A ar) (hb : RdL fB w B gr) (hv : validQ ar gr = true) :
    Calls Try.prog 40 #[.slice A ar.length c, .slice B gr.length d] w (CarPost w (goneAt ar gr ar.length) (departTo ar gr ar.length)) := by
  obtain ⟨i0, hi0, hz0, hz1, hz2⟩ := info_parts info_Int
  obtain ⟨hl1, hl2⟩ := validQ_len hv
  have hf := validQ_few hv
  have Hl := Lib.hid hl1
  have hl3 : ar.length ≤ gr.length := by omega
  have hl4 : gr.length ≤ ar.length := by omega
  clear hl1
  go_enter Try.func40, Try.ntmps40
  go_wp2_with fail
  refine (iValidQ_any ar gr A B c d _ ha (by omega) (by omega)).mono ?_
  rw [hv]
  rintro e w1 ⟨rfl, rfl⟩
  go_wp2_with fail
  go_loopw [6, 7, 8, 17] (fun v6 v7 v8 i wr => ∃ k : Nat, k ≤ ar.length ∧ i = .int .i64 k ∧ (∃ A6 A7 A8 c6 c7 c8, v6 = .slice A6 (queueAt ar gr k).length c6 ∧ v7 = .slice A7 (goneAt ar gr k).length c7 ∧ v8 = .slice A8 (departTo ar gr k).length c8 ∧
      Three wr w.heap.size A6 A7 A8 c6 c7 c8 (queueAt ar gr k) (goneAt ar gr k) (departTo ar gr k)) ∧ Below w.heap.size w wr) (fun _ _ _ i _ => ar.length - (intOf i).toNat)
  case atStart => exact ⟨0, Nat.zero_le _, rfl, ⟨none, none, none, 0, 0, 0, rfl, rfl, rfl, OwnO.nil _ _ _ _, OwnO.nil _ _ _ _, OwnO.nil _ _ _ _, Sep.none, Sep.none, Sep.none⟩, Below.refl _ _⟩
  case round =>
    obtain ⟨k, hk, rfl, ⟨A6, A7, A8, c6, c7, c8, rfl, rfl, rfl, h3⟩, hbel⟩ := hrel
    have hlen7 : (goneAt ar gr k).length ≤ 1000 := by have := goneAt_length ar gr hf k; have := departTo_length ar gr k; omega
    have hlen8 : (departTo ar gr k).length ≤ 1000 := by have := departTo_length ar gr k; omega
    have hlen6 : (queueAt ar gr k).length ≤ 1000 := by have := queueAt_length ar gr hf k; omega
    by_cases hlt : k < ar.length
    · have hlt2 : k < gr.length := by omega
      obtain ⟨b1, o1, rfl, hc1⟩ := (ha.below hbel).at hlt
      obtain ⟨b2, o2, rfl, hc2⟩ := (hb.below hbel).at hlt2
      rw [ga_at hlt] at hc1
      have hgg := gg_at hlt2
      have hfl := fullAt_length ar gr hf k
      obtain ⟨x, hx⟩ : ∃ x : Nat, ga ar k = x := ⟨(ga ar k).toNat, by have := hf k; omega⟩
      have hx3 : x ≤ 3 := by have := hf k; omega
      have hfull : fullAt ar gr k = queueAt ar gr k ++ List.replicate x (k : Int) := by rw [fullAt, hx]; simp
      rw [hx] at hc1
      have Hfull := Lib.hid hfull
      have Hx := Lib.hid hx
      have Hfl := Lib.hid hfl
      have Hbel := Lib.hid hbel
      have hlo := hbel.size
      obtain ⟨t, ht⟩ : ∃ t, gr[k] = t := ⟨_, rfl⟩
      rw [ht] at hc2 hgg
      have Hgg := Lib.hid hgg
      clear hfull hx hgg hfl hbel ha hb ht
      simp only [fI, fB] at hc1 hc2
      obtain ⟨wo, rfl⟩ : ∃ wo : World, wo = wr := ⟨_, rfl⟩
      go_wp2_with fail
      go_loopw [6, 26] (fun v6 j wz => ∃ n : Nat, n ≤ x ∧ j = .int .i64 n ∧ (∃ A6' c6', v6 = .slice A6' (queueAt ar gr k ++ List.replicate n (k : Int)).length c6' ∧
          Three wz w.heap.size A6' A7 A8 c6' c7 c8 (queueAt ar gr k ++ List.replicate n (k : Int)) (goneAt ar gr k) (departTo ar gr k)) ∧ Below w.heap.size w wz) (fun _ j _ => x - (intOf j).toNat)
      case atStart => exact ⟨0, Nat.zero_le _, rfl, ⟨A6, c6, by simp, by simpa using h3⟩, Hbel.out⟩
      case round =>
        clear h3 Hbel hlo hc1 hc2
        obtain ⟨n, hn, rfl, ⟨A6', c6', rfl, h4⟩, hbel⟩ := hrel
        have hlo := hbel.size
        have Hbel := Lib.hid hbel
        have hlenq : (queueAt ar gr k ++ List.replicate n (k : Int)).length ≤ 2000 := by simp; omega
        have hrep : (queueAt ar gr k ++ List.replicate n (k : Int)) ++ [(k : Int)] = queueAt ar gr k ++ List.replicate (n + 1) (k : Int) := by
          rw [List.replicate_succ', List.append_assoc]
        have Hrep := Lib.hid hrep
        clear hrep hbel
        by_cases hnx : n < x
        · have hlen2 : (queueAt ar gr k ++ List.replicate n (k : Int)).length + 1 = (queueAt ar gr k ++ List.replicate (n + 1) (k : Int)).length := by simp; omega
          have Hlen2 := Lib.hid hlen2
          clear hlen2
          generalize queueAt ar gr k ++ List.replicate n (k : Int) = L at *
          go_wp2_with (at_builtin; refine wpList_pushO rfl (.tmp 28) (.tmp 30) 22 rfl i0 _ 8 Try.underlying22 hi0 hz0 hz1 hz2 rfl rfl (h4.o6.alloc _) wr.heap.size _ rfl (cell_new _ _ _) rfl (by omega) (by omega) (by simp; omega) ?_; intro A2 c2' w2 ho2 hg2 hb2)
          have h5 := h4.push6 ho2 hg2 hb2
          have hbel2 := below_push hlo Hbel.out h4.o6.lt hg2
          rw [Hrep.out] at h5
          go_roundw
          case rel => exact ⟨n + 1, by omega, by go_num, ⟨A2, c2', by rw [Hlen2.out], h5⟩, hbel2⟩
          case measure => simp [intOf]; omega
        · obtain rfl : n = x := by omega
          have hq := Hfl.out
          rw [Hfull.out] at hq
          have hqb := qlen_bd ar gr hf k
          have hgx := Hx.out
          rw [hgx] at hq
          cases t
          · have hd : dep ar gr k = false := by simp only [dep, ← Hgg.out, Bool.false_and]
            obtain ⟨e1, e2, e3⟩ := at_no ar gr hf k hd
            rw [Hfull.out] at e1
            have E1 := Lib.hid e1
            have E2 := Lib.hid e2
            have E3 := Lib.hid e3
            clear e1 e2 e3 hq hqb hgx hf hd hv
            go_wp2_with fail
            go_roundw
            case rel => exact ⟨k + 1, by omega, by go_num, ⟨A6', A7, A8, c6', c7, c8, by rw [E1.out], by rw [E2.out], by rw [E3.out], by rw [E1.out, E2.out, E3.out]; exact h4⟩, Hbel.out⟩
            case measure => simp [intOf]; omega
          · by_cases hq0 : 0 < (queueAt ar gr k ++ List.replicate n (k : Int)).length
            · have hd : dep ar gr k = true := by
                simp only [dep, ← Hgg.out, Bool.true_and, decide_eq_true_eq]
                omega
              obtain ⟨z, e1, e2, e3⟩ := at_yes ar gr hf k hd
              rw [Hfull.out] at e1
              have E2 := Lib.hid e2
              have E3 := Lib.hid e3
              rw [e1] at h4 hq0 hlenq ⊢
              clear e1 e2 e3 hq hqb hgx hf hd hv Hrep
              obtain ⟨ht1, ht2⟩ := h4.o6.tail
              obtain ⟨b6, o6, rfl, hc6⟩ := h4.o6.rd.at (k := 0) (by omega)
              simp only [List.getElem_cons_zero, fI, Nat.add_zero] at hc6
              obtain ⟨hq0', hlq⟩ : 0 < (z :: queueAt ar gr (k + 1)).length ∧ (queueAt ar gr (k + 1)).length ≤ 2000 := ⟨hq0, by simp at hlenq; omega⟩
              have h6a := h4.o6.lt b6 rfl
              go_wp2_with (first
                | (at_builtin; refine wpList_pushO rfl (.tmp 39) (.tmp 43) 22 rfl i0 _ 8 Try.underlying22 hi0 hz0 hz1 hz2 rfl rfl (h4.o7.alloc _) wr.heap.size _ rfl (cell_new _ _ _) rfl (by omega) (by omega) (by simp; omega) ?_; intro A2 c2 w2 ho2 hg2 hb2; have h5 := h4.push7 ho2 hg2 hb2; have hbel2 := below_push hlo Hbel.out h4.o7.lt hg2; have hlo2 := hbel2.size)
                | (at_builtin; refine wpList_pushO rfl (.tmp 45) (.tmp 47) 22 rfl i0 _ 8 Try.underlying22 hi0 hz0 hz1 hz2 rfl rfl (h5.o8.alloc _) w2.heap.size _ rfl (cell_new _ _ _) rfl (by omega) (by omega) (by simp; omega) ?_; intro A3 c3 w3 ho3 hg3 hb3; have h6 := h5.push8 ho3 hg3 hb3; have hbel3 := below_push hlo2 hbel2 h5.o8.lt hg3))
              have h7 := h6.tail
              go_roundw
              case rel => exact ⟨k + 1, by omega, by go_num, ⟨_, A2, A3, _, c2, c3, rfl, by rw [E2.out]; simp, by rw [E3.out]; simp, by rw [E2.out, E3.out]; exact h7⟩, hbel3⟩
              case measure => simp [intOf]; omega
            · have hd : dep ar gr k = false := by
                simp only [dep, ← Hgg.out, Bool.true_and, decide_eq_false_iff_not]
                omega
              obtain ⟨e1, e2, e3⟩ := at_no ar gr hf k hd
              rw [Hfull.out] at e1
              have E1 := Lib.hid e1
              have E2 := Lib.hid e2
              have E3 := Lib.hid e3
              clear e1 e2 e3 hq hqb hgx hf hd hv Hrep Hfull
              generalize queueAt ar gr k ++ List.replicate n (k : Int) = L at *
              have hq1 : ((L.length : Nat) : Int) ≤ 0 := by omega
              have HL := Lib.hid hq0
              clear hq0
              go_wp2_with fail
              go_roundw
              case rel => exact ⟨k + 1, by omega, by go_num, ⟨A6', A7, A8, c6', c7, c8, by rw [E1.out], by rw [E2.out], by rw [E3.out], by rw [E1.out, E2.out, E3.out]; exact h4⟩, Hbel.out⟩
              case measure => simp [intOf]; omega
    · obtain rfl : k = ar.length := by omega
      clear ha hb hv hf
      go_wp2_with fail
      go_ret2
      exact ⟨A7, A8, c7, c8, rfl, h3.o7, h3.o8, h3.s78, hbel⟩
end Go.Proofs.Ytlafbfphegmbaaa
