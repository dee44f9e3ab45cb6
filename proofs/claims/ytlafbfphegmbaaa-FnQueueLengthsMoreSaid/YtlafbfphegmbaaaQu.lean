/-
  Queues: the contracts of the program's and the reference's functions.
-/
import Derived.Test.YtlafbfphegmbaaaLs
import Derived.Test.YtlafbfphegmbaaaQuMath
namespace Go.Proofs.Ytlafbfphegmbaaa
open Go.RowKit
set_option linter.unusedVariables false

def validQ (ar : List Int) (gr : List Bool) : Bool := decide (ar.length = gr.length) && decide (ar.length ≤ 150) && allB ar 0 3
theorem validQ_len {ar : List Int} {gr : List Bool} (h : validQ ar gr = true) : ar.length = gr.length ∧ ar.length ≤ 150 := by
  simp [validQ] at h; omega
theorem validQ_few {ar : List Int} {gr : List Bool} (h : validQ ar gr = true) : Few ar := by
  simp only [validQ, Bool.and_eq_true, allB, List.all_eq_true, inB, decide_eq_true_eq] at h
  exact few_of h.2
def queuesF (ar : List Int) (gr : List Bool) : List Int := if validQ ar gr then queuesTo ar gr ar.length else []
def departF (ar : List Int) (gr : List Bool) : List Int := if validQ ar gr then departTo ar gr ar.length else []
def waitsF (ar : List Int) (gr : List Bool) : List Int := if validQ ar gr then waitsTo ar gr ar.length else []
def delayF (ar : List Int) (gr : List Bool) : Int := if validQ ar gr then sumL (queuesTo ar gr ar.length) else -1

theorem ga_at {ar : List Int} {k : Nat} (h : k < ar.length) : ar[k] = ga ar k := by simp [ga, h]
theorem gg_at {gr : List Bool} {k : Nat} (h : k < gr.length) : gr[k] = gg gr k := by simp [gg, h]

theorem iValidQ_any (ar : List Int) (gr : List Bool) (A B : Option Addr) (c d : Nat) (w : World) (ha : RdL fI w A ar) (hn : ar.length ≤ 2000000) (hm : gr.length ≤ 2000000) :
    Calls Try.prog 37 #[.slice A ar.length c, .slice B gr.length d] w fun e w' => e = .returned (.bool (validQ ar gr)) ∧ w = w' := by
  go_enter Try.func37, Try.ntmps37
  go_wp2_with (go_at_call 47; refine (allWithin_any _ _ _ _ _ _ ha (by omega)).mono ?_; rintro e w' ⟨rfl, rfl⟩)
  all_goals go_ret
  all_goals refine ⟨?_, rfl⟩
  all_goals (simp only [validQ]; simp_all; try omega)

theorem sValidQ_any (ar : List Int) (gr : List Bool) (A B : Option Addr) (c d : Nat) (w : World) (ha : RdL fI w A ar) (hn : ar.length ≤ 2000000) (hm : gr.length ≤ 2000000) :
    Calls Try.prog 34 #[.slice A ar.length c, .slice B gr.length d] w fun e w' => e = .returned (.bool (validQ ar gr)) ∧ w = w' := by
  go_enter Try.func34, Try.ntmps34
  go_wp2_with (go_at_call 46; refine (allIn_any _ _ _ _ _ _ ha (by omega)).mono ?_; rintro e w' ⟨rfl, rfl⟩)
  all_goals go_ret
  all_goals refine ⟨?_, rfl⟩
  all_goals (simp only [validQ]; simp_all; try omega)


set_option maxHeartbeats 800000 in
theorem queues_any (ar : List Int) (gr : List Bool) (A B : Option Addr) (c d : Nat) (w : World) (ha : RdL fI w A ar) (hb : RdL fB w B gr) (hv : validQ ar gr = true) :
    Calls Try.prog 36 #[.slice A ar.length c, .slice B gr.length d] w (New fI 3 w (queuesTo ar gr ar.length)) := by
  obtain ⟨i0, hi0, hz0, hz1, hz2⟩ := info_parts info_Int
  obtain ⟨hl1, hl2⟩ := validQ_len hv
  have hf := validQ_few hv
  have Hl := Lib.hid hl1
  have hl3 : ar.length ≤ gr.length := by omega
  have hl4 : gr.length ≤ ar.length := by omega
  clear hl1
  go_enter Try.func36, Try.ntmps36
  go_wp2_with fail
  go_loopw [5, 6, 7] (fun v q i wr => ∃ k : Nat, k ≤ ar.length ∧ i = .int .i64 k ∧ q = .int .i64 (qlen ar gr k) ∧ (∃ A1 c1, v = .slice A1 (queuesTo ar gr k).length c1 ∧ OwnL fI wr w.heap.size 3 A1 c1 (queuesTo ar gr k)) ∧ Below w.heap.size w wr) (fun _ _ i _ => ar.length - (intOf i).toNat)
  case atStart => exact ⟨0, Nat.zero_le _, rfl, rfl, ⟨_, _, rfl, OwnL.of_cap fI (Blk.new _ _ _) (Nat.le_refl _) rfl (by simp [maxLen])⟩, (Below.refl _ _).alloc (Nat.le_refl _) _⟩
  case round =>
    obtain ⟨k, hk, rfl, rfl, ⟨A1, c1, rfl, ho⟩, hbel⟩ := hrel
    have hqb := qlen_bd ar gr hf k
    have hlo := hbel.size
    have hlen : (queuesTo ar gr k).length ≤ k := by rw [queuesTo_length]; exact Nat.le_refl _
    have Hbel := Lib.hid hbel
    by_cases hlt : k < ar.length
    · have hlt2 : k < gr.length := by omega
      obtain ⟨b1, o1, rfl, hc1⟩ := (ha.below hbel).at hlt
      obtain ⟨b2, o2, rfl, hc2⟩ := (hb.below hbel).at hlt2
      rw [ga_at hlt] at hc1
      have hgg := gg_at hlt2
      have hq := qlen_bd ar gr hf k
      have hak := hf k
      have hsucc := qlen_succ ar gr k
      have hdsucc := departTo_succ ar gr k
      have hqs := queuesTo_succ ar gr k
      rcases (show gr[k] = false ∨ (gr[k] = true ∧ 0 < qlen ar gr k + ga ar k) ∨ (gr[k] = true ∧ ¬ 0 < qlen ar gr k + ga ar k) by cases gr[k] <;> simp <;> omega) with hg0 | ⟨hg0, hq0⟩ | ⟨hg0, hq0⟩
      · have hd : dep ar gr k = false := by simp only [dep, ← hgg, hg0, Bool.false_and]
        rw [if_neg (by rw [hd]; decide)] at hsucc hdsucc
        rw [hg0] at hc2
        obtain ⟨hq1, hq2⟩ := hq
        obtain ⟨ha1, ha2⟩ := hak
        rw [hsucc] at hqs
        have Hs := Lib.hid hsucc
        have Hds := Lib.hid hdsucc
        have Hqs := Lib.hid hqs
        have Hx := Lib.hid (queuesTo_length ar gr (k + 1))
        have Hy := Lib.hid (queuesTo_length ar gr k)
        generalize qlen ar gr k = q at *
        generalize ga ar k = x at *
        clear ha hb hf hv hbel hd hg0 hgg hsucc hdsucc hqs hqb
        generalize queuesTo ar gr k = L at *
        go_wp2_with (at_builtin; refine wpList_push rfl (.tmp 31) (.tmp 33) 22 rfl i0 _ 8 Try.underlying22 hi0 hz0 hz1 hz2 rfl rfl (ho.alloc _) wr.heap.size _ rfl (cell_new _ _ _) rfl (by omega) (by omega) (by simp; omega) ?_; intro A2 c2 w2 ho2 hg2 hb2)
        have hbel2 := below_push hlo Hbel.out ho.ltb hg2
        go_roundw
        case rel => exact ⟨k + 1, by omega, by go_num, by rw [Hs.out], ⟨A2, c2, by rw [Hx.out]; have := Hy.out; congr 1; omega, by rw [Hqs.out]; exact ho2⟩, hbel2⟩
        case measure => simp [intOf]; omega
      · have hd : dep ar gr k = true := by
          simp only [dep, ← hgg, hg0, Bool.true_and, decide_eq_true_eq]
          exact hq0
        rw [if_pos hd] at hsucc hdsucc
        rw [hg0] at hc2
        obtain ⟨hq1, hq2⟩ := hq
        obtain ⟨ha1, ha2⟩ := hak
        rw [hsucc] at hqs
        have Hs := Lib.hid hsucc
        have Hds := Lib.hid hdsucc
        have Hqs := Lib.hid hqs
        have Hx := Lib.hid (queuesTo_length ar gr (k + 1))
        have Hy := Lib.hid (queuesTo_length ar gr k)
        generalize qlen ar gr k = q at *
        generalize ga ar k = x at *
        clear ha hb hf hv hbel hd hg0 hgg hsucc hdsucc hqs hqb
        generalize queuesTo ar gr k = L at *
        go_wp2_with (at_builtin; refine wpList_push rfl (.tmp 31) (.tmp 33) 22 rfl i0 _ 8 Try.underlying22 hi0 hz0 hz1 hz2 rfl rfl (ho.alloc _) wr.heap.size _ rfl (cell_new _ _ _) rfl (by omega) (by omega) (by simp; omega) ?_; intro A2 c2 w2 ho2 hg2 hb2)
        have hbel2 := below_push hlo Hbel.out ho.ltb hg2
        go_roundw
        case rel => exact ⟨k + 1, by omega, by go_num, by rw [Hs.out], ⟨A2, c2, by rw [Hx.out]; have := Hy.out; congr 1; omega, by rw [Hqs.out]; exact ho2⟩, hbel2⟩
        case measure => simp [intOf]; omega
      · have hd : dep ar gr k = false := by
          simp only [dep, ← hgg, hg0, Bool.true_and, decide_eq_false_iff_not]
          exact hq0
        rw [if_neg (by rw [hd]; decide)] at hsucc hdsucc
        rw [hg0] at hc2
        obtain ⟨hq1, hq2⟩ := hq
        obtain ⟨ha1, ha2⟩ := hak
        rw [hsucc] at hqs
        have Hs := Lib.hid hsucc
        have Hds := Lib.hid hdsucc
        have Hqs := Lib.hid hqs
        have Hx := Lib.hid (queuesTo_length ar gr (k + 1))
        have Hy := Lib.hid (queuesTo_length ar gr k)
        generalize qlen ar gr k = q at *
        generalize ga ar k = x at *
        clear ha hb hf hv hbel hd hg0 hgg hsucc hdsucc hqs hqb
        generalize queuesTo ar gr k = L at *
        go_wp2_with (at_builtin; refine wpList_push rfl (.tmp 31) (.tmp 33) 22 rfl i0 _ 8 Try.underlying22 hi0 hz0 hz1 hz2 rfl rfl (ho.alloc _) wr.heap.size _ rfl (cell_new _ _ _) rfl (by omega) (by omega) (by simp; omega) ?_; intro A2 c2 w2 ho2 hg2 hb2)
        have hbel2 := below_push hlo Hbel.out ho.ltb hg2
        go_roundw
        case rel => exact ⟨k + 1, by omega, by go_num, by rw [Hs.out], ⟨A2, c2, by rw [Hx.out]; have := Hy.out; congr 1; omega, by rw [Hqs.out]; exact ho2⟩, hbel2⟩
        case measure => simp [intOf]; omega
    · obtain rfl : k = ar.length := by omega
      clear ha hb hf hv hbel
      go_wp2_with fail
      go_ret
      exact ⟨A1, c1, rfl, ho, Hbel.out⟩

set_option maxHeartbeats 800000 in
theorem departures_any (ar : List Int) (gr : List Bool) (A B : Option Addr) (c d : Nat) (w : World) (ha : RdL fI w A ar) (hb : RdL fB w B gr) (hv : validQ ar gr = true) :
    Calls Try.prog 39 #[.slice A ar.length c, .slice B gr.length d] w (New fI 3 w (departTo ar gr ar.length)) := by
  obtain ⟨i0, hi0, hz0, hz1, hz2⟩ := info_parts info_Int
  obtain ⟨hl1, hl2⟩ := validQ_len hv
  have hf := validQ_few hv
  have Hl := Lib.hid hl1
  have hl3 : ar.length ≤ gr.length := by omega
  have hl4 : gr.length ≤ ar.length := by omega
  clear hl1
  go_enter Try.func39, Try.ntmps39
  go_wp2_with fail
  go_loopw [5, 6, 7] (fun v q i wr => ∃ k : Nat, k ≤ ar.length ∧ i = .int .i64 k ∧ q = .int .i64 (qlen ar gr k) ∧ (∃ A1 c1, v = .slice A1 (departTo ar gr k).length c1 ∧ OwnL fI wr w.heap.size 3 A1 c1 (departTo ar gr k)) ∧ Below w.heap.size w wr) (fun _ _ i _ => ar.length - (intOf i).toNat)
  case atStart => exact ⟨0, Nat.zero_le _, rfl, rfl, ⟨_, _, rfl, OwnL.of_cap fI (Blk.new _ _ _) (Nat.le_refl _) rfl (by simp [maxLen])⟩, (Below.refl _ _).alloc (Nat.le_refl _) _⟩
  case round =>
    obtain ⟨k, hk, rfl, rfl, ⟨A1, c1, rfl, ho⟩, hbel⟩ := hrel
    have hqb := qlen_bd ar gr hf k
    have hlo := hbel.size
    have hlen : (departTo ar gr k).length ≤ k := departTo_length ar gr k
    have Hbel := Lib.hid hbel
    by_cases hlt : k < ar.length
    · have hlt2 : k < gr.length := by omega
      obtain ⟨b1, o1, rfl, hc1⟩ := (ha.below hbel).at hlt
      obtain ⟨b2, o2, rfl, hc2⟩ := (hb.below hbel).at hlt2
      rw [ga_at hlt] at hc1
      have hgg := gg_at hlt2
      have hq := qlen_bd ar gr hf k
      have hak := hf k
      have hsucc := qlen_succ ar gr k
      have hdsucc := departTo_succ ar gr k
      have hqs := queuesTo_succ ar gr k
      rcases (show gr[k] = false ∨ (gr[k] = true ∧ 0 < qlen ar gr k + ga ar k) ∨ (gr[k] = true ∧ ¬ 0 < qlen ar gr k + ga ar k) by cases gr[k] <;> simp <;> omega) with hg0 | ⟨hg0, hq0⟩ | ⟨hg0, hq0⟩
      · have hd : dep ar gr k = false := by simp only [dep, ← hgg, hg0, Bool.false_and]
        rw [if_neg (by rw [hd]; decide)] at hsucc hdsucc
        rw [hg0] at hc2
        obtain ⟨hq1, hq2⟩ := hq
        obtain ⟨ha1, ha2⟩ := hak
        rw [hsucc] at hqs
        have Hs := Lib.hid hsucc
        have Hds := Lib.hid hdsucc
        have Hqs := Lib.hid hqs
        generalize qlen ar gr k = q at *
        generalize ga ar k = x at *
        clear ha hb hf hv hbel hd hg0 hgg hsucc hdsucc hqs hqb
        go_wp2_with fail
        go_roundw
        case rel => exact ⟨k + 1, by omega, by go_num, by rw [Hs.out], ⟨A1, c1, by rw [Hds.out], by rw [Hds.out]; exact ho⟩, Hbel.out⟩
        case measure => simp [intOf]; omega
      · have hd : dep ar gr k = true := by
          simp only [dep, ← hgg, hg0, Bool.true_and, decide_eq_true_eq]
          exact hq0
        rw [if_pos hd] at hsucc hdsucc
        rw [hg0] at hc2
        obtain ⟨hq1, hq2⟩ := hq
        obtain ⟨ha1, ha2⟩ := hak
        rw [hsucc] at hqs
        have Hs := Lib.hid hsucc
        have Hds := Lib.hid hdsucc
        have Hqs := Lib.hid hqs
        generalize qlen ar gr k = q at *
        generalize ga ar k = x at *
        clear ha hb hf hv hbel hd hg0 hgg hsucc hdsucc hqs hqb
        generalize departTo ar gr k = L at *
        go_wp2_with (at_builtin; refine wpList_push rfl (.tmp 31) (.tmp 33) 22 rfl i0 _ 8 Try.underlying22 hi0 hz0 hz1 hz2 rfl rfl (ho.alloc _) wr.heap.size _ rfl (cell_new _ _ _) rfl (by omega) (by omega) (by simp; omega) ?_; intro A2 c2 w2 ho2 hg2 hb2)
        have hbel2 := below_push hlo Hbel.out ho.ltb hg2
        go_roundw
        case rel => exact ⟨k + 1, by omega, by go_num, by rw [Hs.out], ⟨A2, c2, by rw [Hds.out]; simp, by rw [Hds.out]; exact ho2⟩, hbel2⟩
        case measure => simp [intOf]; omega
      · have hd : dep ar gr k = false := by
          simp only [dep, ← hgg, hg0, Bool.true_and, decide_eq_false_iff_not]
          exact hq0
        rw [if_neg (by rw [hd]; decide)] at hsucc hdsucc
        rw [hg0] at hc2
        obtain ⟨hq1, hq2⟩ := hq
        obtain ⟨ha1, ha2⟩ := hak
        rw [hsucc] at hqs
        have Hs := Lib.hid hsucc
        have Hds := Lib.hid hdsucc
        have Hqs := Lib.hid hqs
        generalize qlen ar gr k = q at *
        generalize ga ar k = x at *
        clear ha hb hf hv hbel hd hg0 hgg hsucc hdsucc hqs hqb
        go_wp2_with fail
        go_roundw
        case rel => exact ⟨k + 1, by omega, by go_num, by rw [Hs.out], ⟨A1, c1, by rw [Hds.out], by rw [Hds.out]; exact ho⟩, Hbel.out⟩
        case measure => simp [intOf]; omega
    · obtain rfl : k = ar.length := by omega
      clear ha hb hf hv hbel
      go_wp2_with fail
      go_ret
      exact ⟨A1, c1, rfl, ho, Hbel.out⟩

set_option maxHeartbeats 800000 in
theorem iQueues_yes (ar : List Int) (gr : List Bool) (A B : Option Addr) (c d : Nat) (w : World) (ha : RdL fI w A ar) (hb : RdL fB w B gr) (hv : validQ ar gr = true) :
    Calls Try.prog 20 #[.slice A ar.length c, .slice B gr.length d] w (New fI 3 w (queuesTo ar gr ar.length)) := by
  obtain ⟨i0, hi0, hz0, hz1, hz2⟩ := info_parts info_Int
  obtain ⟨hl1, hl2⟩ := validQ_len hv
  have hf := validQ_few hv
  have Hl := Lib.hid hl1
  have hl3 : ar.length ≤ gr.length := by omega
  have hl4 : gr.length ≤ ar.length := by omega
  clear hl1
  have hmk : ∀ W, (Instr.makeSlice 22 (.int .i64 0) (.int .i64 ((gr.length : Nat) : Int))).run Try.prog W = .ok (.slice (some ⟨W.heap.size, 0, none⟩) 0 gr.length) (W.alloc (.cells (List.replicate gr.length (Value.int .i64 0)).toArray 3)) := fun W => run_make_n (P := Try.prog) 22 3 i0 (Value.int .i64 (0)) Try.underlying22 hi0 hz0 hz1 rfl .i64 .i64 0 gr.length (Nat.zero_le _) (by omega) (by omega) W
  go_enter Try.func20, Try.ntmps20
  go_wp2_with fail
  refine (iValidQ_any ar gr A B c d _ ha (by omega) (by omega)).mono ?_
  rw [hv]
  rintro e w1 ⟨rfl, rfl⟩
  go_wp2_with fail
  clear hmk
  go_loopw [5, 6, 18] (fun v q i wr => ∃ k : Nat, k ≤ ar.length ∧ i = .int .i64 k ∧ q = .int .i64 (qlen ar gr k) ∧ (∃ A1 c1, v = .slice A1 (queuesTo ar gr k).length c1 ∧ OwnL fI wr w.heap.size 3 A1 c1 (queuesTo ar gr k)) ∧ Below w.heap.size w wr) (fun _ _ i _ => ar.length - (intOf i).toNat)
  case atStart => exact ⟨0, Nat.zero_le _, rfl, rfl, ⟨_, _, rfl, OwnL.of_cap fI (Blk.new _ _ _) (Nat.le_refl _) (by simp) (by unfold maxLen; omega)⟩, (Below.refl _ _).alloc (Nat.le_refl _) _⟩
  case round =>
    obtain ⟨k, hk, rfl, rfl, ⟨A1, c1, rfl, ho⟩, hbel⟩ := hrel
    have hqb := qlen_bd ar gr hf k
    have hlo := hbel.size
    have hlen : (queuesTo ar gr k).length ≤ k := by rw [queuesTo_length]; exact Nat.le_refl _
    have Hbel := Lib.hid hbel
    by_cases hlt : k < ar.length
    · have hlt2 : k < gr.length := by omega
      obtain ⟨b1, o1, rfl, hc1⟩ := (ha.below hbel).at hlt
      obtain ⟨b2, o2, rfl, hc2⟩ := (hb.below hbel).at hlt2
      rw [ga_at hlt] at hc1
      have hgg := gg_at hlt2
      have hq := qlen_bd ar gr hf k
      have hak := hf k
      have hsucc := qlen_succ ar gr k
      have hdsucc := departTo_succ ar gr k
      have hqs := queuesTo_succ ar gr k
      rcases (show gr[k] = false ∨ (gr[k] = true ∧ 0 < qlen ar gr k + ga ar k) ∨ (gr[k] = true ∧ ¬ 0 < qlen ar gr k + ga ar k) by cases gr[k] <;> simp <;> omega) with hg0 | ⟨hg0, hq0⟩ | ⟨hg0, hq0⟩
      · have hd : dep ar gr k = false := by simp only [dep, ← hgg, hg0, Bool.false_and]
        rw [if_neg (by rw [hd]; decide)] at hsucc hdsucc
        rw [hg0] at hc2
        obtain ⟨hq1, hq2⟩ := hq
        obtain ⟨ha1, ha2⟩ := hak
        rw [hsucc] at hqs
        have Hs := Lib.hid hsucc
        have Hds := Lib.hid hdsucc
        have Hqs := Lib.hid hqs
        have Hx := Lib.hid (queuesTo_length ar gr (k + 1))
        have Hy := Lib.hid (queuesTo_length ar gr k)
        generalize qlen ar gr k = q at *
        generalize ga ar k = x at *
        clear ha hb hf hv hbel hd hg0 hgg hsucc hdsucc hqs hqb
        generalize queuesTo ar gr k = L at *
        go_wp2_with (at_builtin; refine wpList_push rfl (.tmp 36) (.tmp 38) 22 rfl i0 _ 8 Try.underlying22 hi0 hz0 hz1 hz2 rfl rfl (ho.alloc _) wr.heap.size _ rfl (cell_new _ _ _) rfl (by omega) (by omega) (by simp; omega) ?_; intro A2 c2 w2 ho2 hg2 hb2)
        have hbel2 := below_push hlo Hbel.out ho.ltb hg2
        go_roundw
        case rel => exact ⟨k + 1, by omega, by go_num, by rw [Hs.out], ⟨A2, c2, by rw [Hx.out]; have := Hy.out; congr 1; omega, by rw [Hqs.out]; exact ho2⟩, hbel2⟩
        case measure => simp [intOf]; omega
      · have hd : dep ar gr k = true := by
          simp only [dep, ← hgg, hg0, Bool.true_and, decide_eq_true_eq]
          exact hq0
        rw [if_pos hd] at hsucc hdsucc
        rw [hg0] at hc2
        obtain ⟨hq1, hq2⟩ := hq
        obtain ⟨ha1, ha2⟩ := hak
        rw [hsucc] at hqs
        have Hs := Lib.hid hsucc
        have Hds := Lib.hid hdsucc
        have Hqs := Lib.hid hqs
        have Hx := Lib.hid (queuesTo_length ar gr (k + 1))
        have Hy := Lib.hid (queuesTo_length ar gr k)
        generalize qlen ar gr k = q at *
        generalize ga ar k = x at *
        clear ha hb hf hv hbel hd hg0 hgg hsucc hdsucc hqs hqb
        generalize queuesTo ar gr k = L at *
        go_wp2_with (at_builtin; refine wpList_push rfl (.tmp 36) (.tmp 38) 22 rfl i0 _ 8 Try.underlying22 hi0 hz0 hz1 hz2 rfl rfl (ho.alloc _) wr.heap.size _ rfl (cell_new _ _ _) rfl (by omega) (by omega) (by simp; omega) ?_; intro A2 c2 w2 ho2 hg2 hb2)
        have hbel2 := below_push hlo Hbel.out ho.ltb hg2
        go_roundw
        case rel => exact ⟨k + 1, by omega, by go_num, by rw [Hs.out], ⟨A2, c2, by rw [Hx.out]; have := Hy.out; congr 1; omega, by rw [Hqs.out]; exact ho2⟩, hbel2⟩
        case measure => simp [intOf]; omega
      · have hd : dep ar gr k = false := by
          simp only [dep, ← hgg, hg0, Bool.true_and, decide_eq_false_iff_not]
          exact hq0
        rw [if_neg (by rw [hd]; decide)] at hsucc hdsucc
        rw [hg0] at hc2
        obtain ⟨hq1, hq2⟩ := hq
        obtain ⟨ha1, ha2⟩ := hak
        rw [hsucc] at hqs
        have Hs := Lib.hid hsucc
        have Hds := Lib.hid hdsucc
        have Hqs := Lib.hid hqs
        have Hx := Lib.hid (queuesTo_length ar gr (k + 1))
        have Hy := Lib.hid (queuesTo_length ar gr k)
        generalize qlen ar gr k = q at *
        generalize ga ar k = x at *
        clear ha hb hf hv hbel hd hg0 hgg hsucc hdsucc hqs hqb
        generalize queuesTo ar gr k = L at *
        go_wp2_with (at_builtin; refine wpList_push rfl (.tmp 36) (.tmp 38) 22 rfl i0 _ 8 Try.underlying22 hi0 hz0 hz1 hz2 rfl rfl (ho.alloc _) wr.heap.size _ rfl (cell_new _ _ _) rfl (by omega) (by omega) (by simp; omega) ?_; intro A2 c2 w2 ho2 hg2 hb2)
        have hbel2 := below_push hlo Hbel.out ho.ltb hg2
        go_roundw
        case rel => exact ⟨k + 1, by omega, by go_num, by rw [Hs.out], ⟨A2, c2, by rw [Hx.out]; have := Hy.out; congr 1; omega, by rw [Hqs.out]; exact ho2⟩, hbel2⟩
        case measure => simp [intOf]; omega
    · obtain rfl : k = ar.length := by omega
      clear ha hb hf hv hbel
      go_wp2_with fail
      go_ret
      exact ⟨A1, c1, rfl, ho, Hbel.out⟩

theorem iQueues_any (ar : List Int) (gr : List Bool) (A B : Option Addr) (c d : Nat) (w : World) (ha : RdL fI w A ar) (hb : RdL fB w B gr) (hn : ar.length ≤ 2000000) (hm : gr.length ≤ 2000000) :
    Calls Try.prog 20 #[.slice A ar.length c, .slice B gr.length d] w (New fI 3 w (queuesF ar gr)) := by
  by_cases hv : validQ ar gr = true
  · have := iQueues_yes ar gr A B c d w ha hb hv
    rwa [show queuesTo ar gr ar.length = queuesF ar gr by simp [queuesF, hv]] at this
  · have hv : validQ ar gr = false := by simpa using hv
    have H := Lib.hid (show queuesF ar gr = [] by simp [queuesF, hv])
    go_enter Try.func20, Try.ntmps20
    go_wp2_with fail
    refine (iValidQ_any ar gr A B c d _ ha hn hm).mono ?_
    rw [hv]
    rintro e w1 ⟨rfl, rfl⟩
    go_wp2_with fail
    go_ret
    rw [H.out]
    exact ⟨none, 0, rfl, OwnL.nil _ _ _ _, Below.refl _ _⟩
theorem sQueues_any (ar : List Int) (gr : List Bool) (A B : Option Addr) (c d : Nat) (w : World) (ha : RdL fI w A ar) (hb : RdL fB w B gr) (hn : ar.length ≤ 2000000) (hm : gr.length ≤ 2000000) :
    Calls Try.prog 19 #[.slice A ar.length c, .slice B gr.length d] w (New fI 3 w (queuesF ar gr)) := by
  by_cases hv : validQ ar gr = true
  · have H := Lib.hid (show queuesF ar gr = queuesTo ar gr ar.length by simp [queuesF, hv])
    go_enter Try.func19, Try.ntmps19
    go_wp2_with fail
    refine (sValidQ_any ar gr A B c d _ ha hn hm).mono ?_
    rw [hv]
    rintro e w1 ⟨rfl, rfl⟩
    go_wp2_with fail
    refine (queues_any ar gr A B c d _ ha hb hv).mono ?_
    rintro e w1 ⟨A1, c1, rfl, ho, hbel⟩
    go_wp2_with fail
    go_ret
    rw [H.out]
    exact ⟨A1, c1, rfl, ho, hbel⟩
  · have hv : validQ ar gr = false := by simpa using hv
    have H := Lib.hid (show queuesF ar gr = [] by simp [queuesF, hv])
    go_enter Try.func19, Try.ntmps19
    go_wp2_with fail
    refine (sValidQ_any ar gr A B c d _ ha hn hm).mono ?_
    rw [hv]
    rintro e w1 ⟨rfl, rfl⟩
    go_wp2_with fail
    go_ret
    rw [H.out]
    exact ⟨none, 0, rfl, OwnL.nil _ _ _ _, Below.refl _ _⟩
theorem sDepart_any (ar : List Int) (gr : List Bool) (A B : Option Addr) (c d : Nat) (w : World) (ha : RdL fI w A ar) (hb : RdL fB w B gr) (hn : ar.length ≤ 2000000) (hm : gr.length ≤ 2000000) :
    Calls Try.prog 24 #[.slice A ar.length c, .slice B gr.length d] w (New fI 3 w (departF ar gr)) := by
  by_cases hv : validQ ar gr = true
  · have H := Lib.hid (show departF ar gr = departTo ar gr ar.length by simp [departF, hv])
    go_enter Try.func24, Try.ntmps24
    go_wp2_with fail
    refine (sValidQ_any ar gr A B c d _ ha hn hm).mono ?_
    rw [hv]
    rintro e w1 ⟨rfl, rfl⟩
    go_wp2_with fail
    refine (departures_any ar gr A B c d _ ha hb hv).mono ?_
    rintro e w1 ⟨A1, c1, rfl, ho, hbel⟩
    go_wp2_with fail
    go_ret
    rw [H.out]
    exact ⟨A1, c1, rfl, ho, hbel⟩
  · have hv : validQ ar gr = false := by simpa using hv
    have H := Lib.hid (show departF ar gr = [] by simp [departF, hv])
    go_enter Try.func24, Try.ntmps24
    go_wp2_with fail
    refine (sValidQ_any ar gr A B c d _ ha hn hm).mono ?_
    rw [hv]
    rintro e w1 ⟨rfl, rfl⟩
    go_wp2_with fail
    go_ret
    rw [H.out]
    exact ⟨none, 0, rfl, OwnL.nil _ _ _ _, Below.refl _ _⟩
end Go.Proofs.Ytlafbfphegmbaaa
