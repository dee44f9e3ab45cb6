/-
  The generators of crossings: what they return is some crossing.
-/
import Derived.Test.YtiapkghigbkpkaaRows
import Derived.Test.YtiapkghigbkpkaaRd
import Derived.Test.YtiapkghigbkpkaaCross
import Derived.Test.YtiapkghigbkpkaaReg
namespace Go.Proofs.Ytiapkghigbkpkaa
open Go.RowKit

def CrPost (w : World) (rb M : Nat) (e : Ending) (w' : World) : Prop :=
  ∃ l s k : Int, e = .returned (cr l s k) ∧ Rdr w' rb (M + 5) ∧ w.grownBy w' (some rb) ∧ 0 ≤ k ∧ k ≤ 1000

abbrev cells3 (l s k : Int) : Array Value := #[.int .i64 l, .int .i64 s, .int .i64 k]

theorem anyCrossing_any (w : World) (rb M : Nat) (hr : Rdr w rb M) (hM : M ≤ 1000) :
    Calls Try.prog 30 #[.pointer (some ⟨rb, 0, none⟩)] w (CrPost w rb M) := by
  have hlt := hr.lt
  go_enter Try.func30, Try.ntmps30
  go_wp2_with fail
  refine (pick_any _ rb M _ (hr.alloc _) (by omega)).mono ?_
  rintro e w1 ⟨k1, rfl, ha1, hb1, hr1, hg1⟩
  replace hb1 := hb1 (by omega)
  have c1 := (Blk.new w 25 (cells3 0 0 0)).grown hg1 (by simp; omega)
  have G1 := only_trans (only_alloc (only_refl w (some rb)) (.cells (cells3 0 0 0) 25)) hg1
  clear hg1 hr
  go_wp2_with fail
  refine (pick_any _ rb (M + 1) _ hr1 (by omega)).mono ?_
  rintro e w2 ⟨k2, rfl, ha2, hb2, hr2, hg2⟩
  replace hb2 := hb2 (by omega)
  replace c1 := c1.grown hg2 (by simp; omega)
  replace G1 := only_trans G1 hg2
  clear hg2 hr1
  go_wp2_with fail
  refine (pick_any _ rb (M + 2) _ hr2 (by omega)).mono ?_
  rintro e w3 ⟨k3, rfl, ha3, hb3, hr3, hg3⟩
  replace hb3 := hb3 (by omega)
  replace c1 := c1.grown hg3 (by simp; omega)
  replace G1 := only_trans G1 hg3
  clear hg3 hr2
  have hlt3 := hr3.lt
  have hsz := c1.lt
  go_wp2_with fail
  refine (pick_any _ rb (M + 3) _ (hr3.alloc _) (by omega)).mono ?_
  rintro e w4 ⟨k4, rfl, ha4, hb4, hr4, hg4⟩
  replace hb4 := hb4 (by omega)
  have c4 := (Blk.new w3 25 (cells3 (20 + k1) (8 + k2) (4 + k3))).grown hg4 (by simp; omega)
  replace c1 := (c1.alloc (.cells (cells3 (20 + k1) (8 + k2) (4 + k3)) 25)).grown hg4 (by simp; omega)
  replace G1 := only_trans (only_alloc G1 (.cells (cells3 (20 + k1) (8 + k2) (4 + k3)) 25)) hg4
  clear hg4 hr3
  have f0 := c4.cell 0
  have f1 := c4.cell 1
  have f2 := c4.cell 2
  have e0 := c1.cell 0
  have e1 := c1.cell 1
  have e2 := c1.cell 2
  have ff := c4.frozen
  have ef := c1.frozen
  simp at f0 f1 f2 e0 e1 e2
  go_wp2_with fail
  · refine (one_any _ rb (M + 4) _ 4 _ [0, 1, 300, 301] (hr4.alloc _) (by omega) (Blk.new _ _ _) (by have := hr4.lt; omega) rfl (by omega) (by omega)).mono ?_
    rintro e w5 ⟨x, rfl, hx, hr5, hg5⟩
    have hx : 0 ≤ x ∧ x ≤ 1000 := by simp at hx; omega
    replace c4 := (c4.alloc (.cells ([0, 1, 300, 301].map (Value.int .i64)).toArray 3)).grown hg5 (by simp; omega)
    replace c1 := (c1.alloc (.cells ([0, 1, 300, 301].map (Value.int .i64)).toArray 3)).grown hg5 (by simp; omega)
    replace G1 := only_trans (only_alloc G1 (.cells ([0, 1, 300, 301].map (Value.int .i64)).toArray 3)) hg5
    clear hg5 hr4 f0 f1 f2 e0 e1 e2 ff ef
    have f0 := c4.cell 0
    have f1 := c4.cell 1
    have f2 := c4.cell 2
    have e0 := c1.cell 0
    have e1 := c1.cell 1
    have e2 := c1.cell 2
    have ff := c4.frozen
    have ef := c1.frozen
    simp at f0 f1 f2 e0 e1 e2
    go_wp2_with fail
    refine bodyPost_ret (v := cr (x) (8 + k2) (4 + k3)) (by simp [results, Try.results30, go_sem, e0, e1, e2]) rfl ⟨_, _, _, rfl, ?_, ?_, by omega, by omega⟩
    · exact (((hr5.setCell (by simp; omega) _).setCell (by simp; omega) _).setCell (by simp; omega) _).setCell (by simp; omega) _
    · exact only_setCell (only_setCell (only_setCell (only_setCell G1 (.inr (by simp; omega)) _) (.inr (by simp)) _) (.inr (by simp)) _) (.inr (by simp)) _
  · refine (one_any _ rb (M + 4) _ 4 _ [0, 1, 30, 31] (hr4.alloc _) (by omega) (Blk.new _ _ _) (by have := hr4.lt; omega) rfl (by omega) (by omega)).mono ?_
    rintro e w5 ⟨x, rfl, hx, hr5, hg5⟩
    have hx : 0 ≤ x ∧ x ≤ 1000 := by simp at hx; omega
    replace c4 := (c4.alloc (.cells ([0, 1, 30, 31].map (Value.int .i64)).toArray 3)).grown hg5 (by simp; omega)
    replace c1 := (c1.alloc (.cells ([0, 1, 30, 31].map (Value.int .i64)).toArray 3)).grown hg5 (by simp; omega)
    replace G1 := only_trans (only_alloc G1 (.cells ([0, 1, 30, 31].map (Value.int .i64)).toArray 3)) hg5
    clear hg5 hr4 f0 f1 f2 e0 e1 e2 ff ef
    have f0 := c4.cell 0
    have f1 := c4.cell 1
    have f2 := c4.cell 2
    have e0 := c1.cell 0
    have e1 := c1.cell 1
    have e2 := c1.cell 2
    have ff := c4.frozen
    have ef := c1.frozen
    simp at f0 f1 f2 e0 e1 e2
    go_wp2_with fail
    refine bodyPost_ret (v := cr (20 + k1) (x) (4 + k3)) (by simp [results, Try.results30, go_sem, e0, e1, e2]) rfl ⟨_, _, _, rfl, ?_, ?_, by omega, by omega⟩
    · exact (((hr5.setCell (by simp; omega) _).setCell (by simp; omega) _).setCell (by simp; omega) _).setCell (by simp; omega) _
    · exact only_setCell (only_setCell (only_setCell (only_setCell G1 (.inr (by simp; omega)) _) (.inr (by simp)) _) (.inr (by simp)) _) (.inr (by simp)) _
  · refine (one_any _ rb (M + 4) _ 4 _ [3, 4, 300, 301] (hr4.alloc _) (by omega) (Blk.new _ _ _) (by have := hr4.lt; omega) rfl (by omega) (by omega)).mono ?_
    rintro e w5 ⟨x, rfl, hx, hr5, hg5⟩
    have hx : 0 ≤ x ∧ x ≤ 1000 := by simp at hx; omega
    replace c4 := (c4.alloc (.cells ([3, 4, 300, 301].map (Value.int .i64)).toArray 3)).grown hg5 (by simp; omega)
    replace c1 := (c1.alloc (.cells ([3, 4, 300, 301].map (Value.int .i64)).toArray 3)).grown hg5 (by simp; omega)
    replace G1 := only_trans (only_alloc G1 (.cells ([3, 4, 300, 301].map (Value.int .i64)).toArray 3)) hg5
    clear hg5 hr4 f0 f1 f2 e0 e1 e2 ff ef
    have f0 := c4.cell 0
    have f1 := c4.cell 1
    have f2 := c4.cell 2
    have e0 := c1.cell 0
    have e1 := c1.cell 1
    have e2 := c1.cell 2
    have ff := c4.frozen
    have ef := c1.frozen
    simp at f0 f1 f2 e0 e1 e2
    go_wp2_with fail
    refine bodyPost_ret (v := cr (20 + k1) (8 + k2) (x)) (by simp [results, Try.results30, go_sem, e0, e1, e2]) rfl ⟨_, _, _, rfl, ?_, ?_, by omega, by omega⟩
    · exact (((hr5.setCell (by simp; omega) _).setCell (by simp; omega) _).setCell (by simp; omega) _).setCell (by simp; omega) _
    · exact only_setCell (only_setCell (only_setCell (only_setCell G1 (.inr (by simp; omega)) _) (.inr (by simp)) _) (.inr (by simp)) _) (.inr (by simp)) _
  · refine bodyPost_ret (v := cr (20 + k1) (8 + k2) (4 + k3)) (by simp [results, Try.results30, go_sem, e0, e1, e2]) rfl ⟨_, _, _, rfl, ?_, ?_, by omega, by omega⟩
    · exact (((hr4.mono (by omega)).setCell (by simp; omega) _).setCell (by simp; omega) _).setCell (by simp; omega) _
    · exact only_setCell (only_setCell (only_setCell G1 (.inr (by simp)) _) (.inr (by simp)) _) (.inr (by simp)) _

theorem dFlash_any (w : World) (A : Option Addr) (len cap : Nat) (h : Bytes w A len) (hc : len ≤ cap) :
    Calls Try.prog 20 #[.slice A len cap] w fun e w' => ∃ l s k : Int, e = .returned (cr l s k) ∧ Below w.heap.size w w' := by
  have h' := h.alloc (.cells (cells3 0 0 0) 25)
  go_enter Try.func20, Try.ntmps20
  go_wp2_with fail
  refine (newReader_any _ A len cap h' hc).mono ?_
  rintro e w1 ⟨rb, rfl, hrb, hr1, hb1⟩
  have c1 := (Blk.new w 25 (cells3 0 0 0)).below hb1 (by simp)
  have B1 := ((Below.refl w.heap.size w).alloc (Nat.le_refl _) (.cells (cells3 0 0 0) 25)).trans (hb1.mono (by simp))
  have hrb' : w.heap.size + 1 ≤ rb := by simpa using hrb
  clear hb1 hrb
  go_wp2_with fail
  refine (anyCrossing_any _ rb 0 hr1 (by omega)).mono ?_
  rintro e w2 ⟨l, s, k, rfl, hr2, hg2, hk0, hk1⟩
  replace c1 := c1.grown hg2 (by simp; omega)
  replace B1 := below_of_only B1 hg2 (by omega)
  clear hg2
  have e0 := c1.cell 0
  have e1 := c1.cell 1
  have e2 := c1.cell 2
  have ef := c1.frozen
  simp at e0 e1 e2
  go_wp2_with fail
  refine bodyPost_ret (v := cr l s k) (by simp [results, Try.results20, go_sem, e0, e1, e2]) rfl ⟨_, _, _, rfl, ?_⟩
  exact ((B1.setCell (by simp) _).setCell (by simp) _).setCell (by simp) _

theorem dStage_any (w : World) (A : Option Addr) (len cap : Nat) (h : Bytes w A len) (hc : len ≤ cap) :
    Calls Try.prog 21 #[.slice A len cap] w fun e w' => ∃ l s k : Int, e = .returned (cr l s k) ∧ Below w.heap.size w w' := by
  have h' := h.alloc (.cells (cells3 0 0 0) 25)
  go_enter Try.func21, Try.ntmps21
  go_wp2_with fail
  refine (newReader_any _ A len cap h' hc).mono ?_
  rintro e w1 ⟨rb, rfl, hrb, hr1, hb1⟩
  have c1 := (Blk.new w 25 (cells3 0 0 0)).below hb1 (by simp)
  have B1 := ((Below.refl w.heap.size w).alloc (Nat.le_refl _) (.cells (cells3 0 0 0) 25)).trans (hb1.mono (by simp))
  have hrb' : w.heap.size + 1 ≤ rb := by simpa using hrb
  clear hb1 hrb
  go_wp2_with fail
  refine (anyCrossing_any _ rb 0 hr1 (by omega)).mono ?_
  rintro e w2 ⟨l, s, k, rfl, hr2, hg2, hk0, hk1⟩
  replace c1 := c1.grown hg2 (by simp; omega)
  replace B1 := below_of_only B1 hg2 (by omega)
  clear hg2
  have e0 := c1.cell 0
  have e1 := c1.cell 1
  have e2 := c1.cell 2
  have ef := c1.frozen
  simp at e0 e1 e2
  go_wp2_with fail
  refine bodyPost_ret (v := cr l s k) (by simp [results, Try.results21, go_sem, e0, e1, e2]) rfl ⟨_, _, _, rfl, ?_⟩
  exact ((B1.setCell (by simp) _).setCell (by simp) _).setCell (by simp) _

theorem dSign_any (w : World) (A : Option Addr) (len cap : Nat) (h : Bytes w A len) (hc : len ≤ cap) :
    Calls Try.prog 22 #[.slice A len cap] w fun e w' => ∃ l s k t : Int, e = .returned (.tuple #[cr l s k, .int .i64 t]) ∧ Below w.heap.size w w' := by
  have h' := h.alloc (.cells (cells3 0 0 0) 25)
  go_enter Try.func22, Try.ntmps22
  go_wp2_with fail
  refine (newReader_any _ A len cap h' hc).mono ?_
  rintro e w1 ⟨rb, rfl, hrb, hr1, hb1⟩
  have c1 := (Blk.new w 25 (cells3 0 0 0)).below hb1 (by simp)
  have B1 := ((Below.refl w.heap.size w).alloc (Nat.le_refl _) (.cells (cells3 0 0 0) 25)).trans (hb1.mono (by simp))
  have hrb' : w.heap.size + 1 ≤ rb := by simpa using hrb
  clear hb1 hrb
  go_wp2_with fail
  refine (anyCrossing_any _ rb 0 hr1 (by omega)).mono ?_
  rintro e w2 ⟨l, s, k, rfl, hr2, hg2, hk0, hk1⟩
  replace c1 := c1.grown hg2 (by simp; omega)
  replace B1 := below_of_only B1 hg2 (by omega)
  clear hg2 hr1
  have hz := hr2.lt
  go_wp2_with fail
  have c5 := Blk.new w2 25 (cells3 l s k)
  replace c1 := c1.alloc (.cells (cells3 l s k) 25)
  replace hr2 := hr2.alloc (.cells (cells3 l s k) 25)
  replace B1 := B1.alloc (by have := c1.lt; have := B1.size; omega) (.cells (cells3 l s k) 25)
  generalize (w2.alloc (.cells (cells3 l s k) 25)) = w3 at *
  refine wp_region_plan (fun x => Blk x w2.heap.size 25 (cells3 l s k)) [0, 1, 2, 3, 4, 5, 6, 7, 8, 9, 10, 11, 12] [13, 14, 15, 16] (by kernel_rfl) (by kernel_rfl) c5.drew ?_
  intro hne
  simp only [List.filterMap_cons, List.filterMap_nil, List.getElem?_toArray, List.getElem?_cons_zero, List.getElem?_cons_succ]
  have g0 : ∀ y : Held (fun x => Blk x w2.heap.size 25 (cells3 l s k)), y.x.cell? ⟨w2.heap.size, 0, none⟩ = some (.int .i64 l) := fun y => y.h.cell 0
  have g1 : ∀ y : Held (fun x => Blk x w2.heap.size 25 (cells3 l s k)), y.x.cell? ⟨w2.heap.size, 1, none⟩ = some (.int .i64 s) := fun y => y.h.cell 1
  have g2 : ∀ y : Held (fun x => Blk x w2.heap.size 25 (cells3 l s k)), y.x.cell? ⟨w2.heap.size, 2, none⟩ = some (.int .i64 k) := fun y => y.h.cell 2
  repeat (refine wpEarly_step (fun K hK => ?_); go_simp; refine hK _ ?_; clear hK K)
  refine wpEarly_nil ?_
  refine wpLate_step rfl (fun K hK => ?_)
  go_wp2_with fail
  refine ⟨c5.alloc _, ?_⟩
  refine wpLate_step rfl (fun K hK => ?_)
  go_wp2_with fail
  refine (one_any _ rb 5 _ 7 _ [0, k - 1, k, k + 5, k + 40, -1, 9] (hr2.alloc _).drew (by omega) (Blk.new _ _ _) (by have := hr2.lt; simp; omega) rfl (by omega) (by omega)).mono ?_
  rintro e w5 ⟨x, rfl, hx, hr5, hg5⟩
  have hl2 := c1.lt
  have hl3 := c5.lt
  have hl4 := hr2.lt
  replace c1 := Blk.grown (c1.alloc (.cells ([0, k - 1, k, k + 5, k + 40, -1, 9].map (Value.int .i64)).toArray 3)).drew hg5 (by simp; omega)
  replace c5 := Blk.grown (c5.alloc (.cells ([0, k - 1, k, k + 5, k + 40, -1, 9].map (Value.int .i64)).toArray 3)).drew hg5 (by simp; omega)
  replace B1 := below_of_only (B1.alloc (by omega) (.cells ([0, k - 1, k, k + 5, k + 40, -1, 9].map (Value.int .i64)).toArray 3)).drew hg5 (by omega)
  clear hg5
  go_wp2_with fail
  refine ⟨c5, ?_⟩
  have e0 := c1.cell 0
  have e1 := c1.cell 1
  have e2 := c1.cell 2
  have ef := c1.frozen
  simp at e0 e1 e2
  refine wpLate_step rfl (fun K hK => ?_)
  go_wp2_with fail
  refine ⟨((c5.far (by simp; omega) _).far (by simp; omega) _).far (by simp; omega) _, ?_⟩
  refine wpLate_step rfl (fun K hK => ?_)
  go_wp2_with fail
  refine ⟨((c5.far (by simp; omega) _).far (by simp; omega) _).far (by simp; omega) _, ?_⟩
  refine wpLate_nil (NoPanic.normal ?_)
  go_wp2_with fail
  refine bodyPost_ret (v := .tuple #[cr l s k, .int .i64 x]) (by simp [results, Try.results22, go_sem, e0, e1, e2]) rfl ⟨_, _, _, _, rfl, ?_⟩
  exact ((B1.setCell (by simp) _).setCell (by simp) _).setCell (by simp) _

theorem dCrossed_any (w : World) (A : Option Addr) (len cap : Nat) (h : Bytes w A len) (hc : len ≤ cap) :
    Calls Try.prog 23 #[.slice A len cap] w fun e w' => ∃ l s k t : Int, e = .returned (.tuple #[cr l s k, .int .i64 t]) ∧ Below w.heap.size w w' := by
  have h' := h.alloc (.cells (cells3 0 0 0) 25)
  go_enter Try.func23, Try.ntmps23
  go_wp2_with fail
  refine (dSign_any _ A len cap h' hc).mono ?_
  rintro e w1 ⟨l, s, k, t, rfl, hb1⟩
  have c1 := (Blk.new w 25 (cells3 0 0 0)).below hb1 (by simp)
  have B1 := ((Below.refl w.heap.size w).alloc (Nat.le_refl _) (.cells (cells3 0 0 0) 25)).trans (hb1.mono (by simp))
  clear hb1
  have e0 := c1.cell 0
  have e1 := c1.cell 1
  have e2 := c1.cell 2
  have ef := c1.frozen
  simp at e0 e1 e2
  go_wp2_with fail
  refine bodyPost_ret (v := .tuple #[cr l s k, .int .i64 t]) (by simp [results, Try.results23, go_sem, e0, e1, e2]) rfl ⟨_, _, _, _, rfl, ?_⟩
  exact ((B1.setCell (by simp) _).setCell (by simp) _).setCell (by simp) _
end Go.Proofs.Ytiapkghigbkpkaa
