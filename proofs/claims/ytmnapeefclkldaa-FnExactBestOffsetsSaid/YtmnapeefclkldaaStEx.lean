/-
  Streets: copies, comparisons, marks.
-/
import Derived.Test.YtmnapeefclkldaaOpen
import Derived.Test.YtmnapeefclkldaaStPass2
namespace Go.Proofs.Ytmnapeefclkldaa
open Go.RowKit
set_option linter.unusedVariables false

/-! ### a whole street is stored -/
abbrev set3 (w : World) (g : Nat) (v0 v1 v2 : Value) : World := ((w.setCell ⟨g, 0, none⟩ v0).setCell ⟨g, 1, none⟩ v1).setCell ⟨g, 2, none⟩ v2
section
variable {w w' : World} {g : Nat} {v0 v1 v2 : Value}
theorem only_set3 (w : World) (g : Nat) (v0 v1 v2 : Value) : w.grownBy (set3 w g v0 v1 v2) (some g) :=
  only_setCell (only_setCell (only_set (w := w) (g := g) (k := 0) v0) (p := ⟨g, 1, none⟩) (.inl rfl) v1) (p := ⟨g, 2, none⟩) (.inl rfl) v2
theorem below_set3 {B : Nat} (h : Below B w w') (hg : B ≤ g) : Below B w (set3 w' g v0 v1 v2) := ((h.setCell hg _).setCell hg _).setCell hg _
theorem own_set3 {α : Type} {f : α → Value} {lo : Nat} {e : TypeId} {A : Option Addr} {cap : Nat} {xs : List α} (h : OwnO f w lo e A cap xs) (hne : ∀ b, blk A = some b → b ≠ g) : OwnO f (set3 w g v0 v1 v2) lo e A cap xs :=
  h.grown (only_set3 _ _ _ _ _) (by
    cases hA : blk A with
    | none => exact .inl rfl
    | some b => exact .inr fun e => hne b hA (by injection e))
theorem own_set1 {α : Type} {f : α → Value} {lo k : Nat} {e : TypeId} {A : Option Addr} {cap : Nat} {xs : List α} (v : Value) (h : OwnO f w lo e A cap xs) (hne : ∀ b, blk A = some b → b ≠ g) : OwnO f (w.setCell ⟨g, k, none⟩ v) lo e A cap xs :=
  h.grown (only_set v) (by
    cases hA : blk A with
    | none => exact .inl rfl
    | some b => exact .inr fun e => hne b hA (by injection e))
theorem Blk.set3 {t : TypeId} {u0 u1 u2 : Value} (h : Blk w g t #[u0, u1, u2]) : Blk (set3 w g v0 v1 v2) g t #[v0, v1, v2] := by
  have := (((h.set_ 0 v0).set_ 1 v1).set_ 2 v2)
  simpa using this
theorem Blk.new2 (w : World) (o : Obj) (t : TypeId) (cs : Array Value) : Blk ((w.alloc o).alloc (.cells cs t)) (w.heap.size + 1) t cs := by
  have := Blk.new (w.alloc o) t cs
  simpa using this
theorem Blk.new3 (w : World) (o o' : Obj) (t : TypeId) (cs : Array Value) : Blk (((w.alloc o).alloc o').alloc (.cells cs t)) (w.heap.size + 1 + 1) t cs := by
  have := Blk.new ((w.alloc o).alloc o') t cs
  simpa using this
end
/-- A boxed street, in every world that meets S. -/
theorem heldS {S : World → Prop} {g : Nat} {t : TypeId} {s : St} {G T : Option Addr} {c d : Nat} (h : ∀ x, S x → Blk x g t (strC s G T c d)) :
    (∀ y : Held S, y.x.cell? ⟨g, 0, none⟩ = some (.int .i64 s.cy)) ∧ (∀ y : Held S, y.x.cell? ⟨g, 1, none⟩ = some (.slice G s.gr.length c)) ∧ (∀ y : Held S, y.x.cell? ⟨g, 2, none⟩ = some (.slice T s.tr.length d)) :=
  ⟨fun y => (h y.x y.h).cell 0, fun y => (h y.x y.h).cell 1, fun y => (h y.x y.h).cell 2⟩
abbrev strZ : Array Value := #[.int .i64 0, .slice none 0 0, .slice none 0 0]
/-- A street that was copied: its lists lie in new memory. -/
def StNew (s : St) (w : World) (e : Ending) (w' : World) : Prop :=
  ∃ G T c d, e = .returned (strV s G T c d) ∧ OwnO fI w' w.heap.size 3 G c s.gr ∧ OwnO fI w' w.heap.size 3 T d s.tr ∧ Sep G T ∧ Below w.heap.size w w'

set_option maxHeartbeats 1600000 in
theorem toStreet_any (s : St) (G T : Option Addr) (c d : Nat) (w : World) (hs : RdS w s G T) (hn : s.gr.length ≤ 1048576) (hm : s.tr.length ≤ 1048576) :
    Calls Try.prog 17 #[strV s G T c d] w (StNew s w) := by
  obtain ⟨cy, gr, tr⟩ := s
  obtain ⟨hg, ht, -, -⟩ := hs
  simp only at hg ht hn hm
  go_enter Try.func17, Try.ntmps17
  go_wp2_with fail
  have b0 := ((Blk.new w 24 (strC ⟨cy, gr, tr⟩ G T c d)).alloc (.cells strZ 27)).alloc (.cells #[.int .i64 cy, .slice none 0 0, .slice none 0 0] 27)
  have b1 := (Blk.new2 w (.cells (strC ⟨cy, gr, tr⟩ G T c d) 24) 27 strZ).alloc (.cells #[.int .i64 cy, .slice none 0 0, .slice none 0 0] 27)
  have b2 := Blk.new3 w (.cells (strC ⟨cy, gr, tr⟩ G T c d) 24) (.cells strZ 27) 27 #[.int .i64 cy, .slice none 0 0, .slice none 0 0]
  have hB : Below w.heap.size w _ := (((Below.refl w.heap.size w).alloc (Nat.le_refl _) (.cells (strC ⟨cy, gr, tr⟩ G T c d) 24)).alloc (by simp) (.cells strZ 27)).alloc (by simp; omega) (.cells #[.int .i64 cy, .slice none 0 0, .slice none 0 0] 27)
  refine (toIntS_any gr G c _ (((hg.alloc _).alloc _).alloc _) hn).mono ?_
  generalize ((w.alloc (.cells (strC ⟨cy, gr, tr⟩ G T c d) 24)).alloc (.cells strZ 27)).alloc (.cells #[.int .i64 cy, .slice none 0 0, .slice none 0 0] 27) = W at *
  rintro e w1 ⟨A1, c1, rfl, y1, v1⟩
  have hz := b2.lt
  replace y1 := y1.o
  have l1 : ∀ b, blk A1 = some b → W.heap.size ≤ b ∧ b < w1.heap.size := y1.lt
  replace b0 := b0.below v1 b0.lt
  replace b1 := b1.below v1 b1.lt
  replace b2 := b2.below v1 b2.lt
  replace hB := hB.trans (v1.mono hB.size)
  have f0 := b0.cell 2
  have f1 := b2.cell 1
  have f2 := b2.frozen
  have sz := v1.size
  simp at f0 f1
  clear v1 hg
  go_wp2_with fail
  obtain ⟨g2, hg2⟩ : ∃ g2, g2 = w.heap.size + 1 + 1 := ⟨_, rfl⟩
  obtain ⟨g1, hg1⟩ : ∃ g1, g1 = w.heap.size + 1 := ⟨_, rfl⟩
  rw [← hg2] at b2 f1 f2 hz
  rw [← hg1] at b1
  simp only [← hg2]
  simp only [← hg1]
  have n1 : ∀ b, blk A1 = some b → b ≠ g2 := fun b h => by have := (l1 b h).1; omega
  have n2 : ∀ b, blk A1 = some b → b ≠ g1 := fun b h => by have := (l1 b h).1; omega
  replace y1 := own_set1 (k := 1) (.slice A1 gr.length c1) y1 n1
  replace b2 := b2.set_ 1 (.slice A1 gr.length c1)
  replace b1 := b1.far (p := ⟨g2, 1, none⟩) (by simp; omega) (.slice A1 gr.length c1)
  replace hB := hB.setCell (p := ⟨g2, 1, none⟩) (by simp; omega) (.slice A1 gr.length c1)
  have z2 : (w1.setCell ⟨g2, 1, none⟩ (.slice A1 gr.length c1)).heap.size = w1.heap.size := by simp
  generalize w1.setCell ⟨g2, 1, none⟩ (.slice A1 gr.length c1) = W2 at *
  refine (toIntS_any tr T d _ (ht.below hB) hm).mono ?_
  rintro e w2 ⟨A2, c2, rfl, y2, v2⟩
  replace y2 := y2.o
  have s12 := y1.sep y2 (Nat.le_refl _)
  have l2 : ∀ b, blk A2 = some b → W2.heap.size ≤ b ∧ b < w2.heap.size := y2.lt
  replace y1 := y1.below v2
  replace b1 := b1.below v2 b1.lt
  replace b2 := b2.below v2 b2.lt
  replace hB := hB.trans (v2.mono hB.size)
  have m1 : ∀ b, blk A2 = some b → b ≠ g2 := fun b h => by have := (l2 b h).1; omega
  have m2 : ∀ b, blk A2 = some b → b ≠ g1 := fun b h => by have := (l2 b h).1; omega
  have f0 := b2.cell 0
  have f1 := b2.cell 1
  have f2 := b2.cell 2
  have ff := b2.frozen
  have e0 := b1.cell 0
  have e1 := b1.cell 1
  have e2 := b1.cell 2
  have ef := b1.frozen
  simp at f0 f1 f2 e0 e1 e2
  have h12 : g1 ≠ g2 := by omega
  have HO1 := Lib.hid (y1.mono (lo' := w.heap.size) (by omega))
  have HO2 := Lib.hid (y2.mono (lo' := w.heap.size) (by have := hB.size; omega))
  have Hg1 : w.heap.size ≤ g1 := by omega
  have Hg2 : w.heap.size ≤ g2 := by omega
  clear v2 y1 y2 b1 b2 hg2 hg1 ht hz l1 l2 sz z2
  go_wp2_with fail
  refine bodyPost_ret (v := strV ⟨cy, gr, tr⟩ A1 A2 c1 c2) (by simp [results, Try.results17, go_sem, e0, e1, e2]) rfl ⟨A1, A2, c1, c2, rfl, ?_, ?_, s12, ?_⟩
  · exact own_set3 (own_set1 _ HO1.out n1) n2
  · exact own_set3 (own_set1 _ HO2.out m1) m2
  · exact below_set3 (hB.setCell Hg2 _) Hg1

def szF (n : Nat) (left : Int) : Int := if (n : Int) ≤ left then left - n else -1
def szS (s : St) : Int := if szF s.gr.length 1048576 < 0 then -1 else szF s.tr.length (szF s.gr.length 1048576)
theorem szF_bd {n : Nat} {left : Int} (h0 : 0 ≤ left) : -1 ≤ szF n left ∧ szF n left ≤ left ∧ (0 ≤ szF n left → (n : Int) ≤ left) := by
  unfold szF; split <;> omega
theorem szS_bd (s : St) : szS s < 0 ∨ (0 ≤ szS s ∧ s.gr.length ≤ 1048576 ∧ s.tr.length ≤ 1048576) := by
  unfold szS
  obtain ⟨h1, h2, h3⟩ := szF_bd (n := s.gr.length) (left := 1048576) (by omega)
  split
  · exact .inl (by omega)
  · rename_i h
    obtain ⟨h4, h5, h6⟩ := szF_bd (n := s.tr.length) (left := szF s.gr.length 1048576) (by omega)
    by_cases h7 : szF s.tr.length (szF s.gr.length 1048576) < 0
    · exact .inl h7
    · exact .inr ⟨by omega, by omega, by omega⟩
theorem szIntS_any (A : Option Addr) (n c : Nat) (left : Int) (w : World) (hn : n ≤ maxLen) (h0 : 0 ≤ left) (h1 : left ≤ 1048576) :
    Calls Try.prog 38 #[.slice A n c, .int .i64 left] w fun e w' => e = .returned (.int .i64 (szF n left)) ∧ w = w' := by
  unfold maxLen at hn
  by_cases h : (n : Int) ≤ left
  · have H := Lib.hid (show szF n left = left - n by simp [szF, h])
    go_enter Try.func38, Try.ntmps38
    go_wp2_with fail
    go_ret
    exact ⟨ret_int H.out.symm, rfl⟩
  · have H := Lib.hid (show szF n left = -1 by simp [szF, h])
    go_enter Try.func38, Try.ntmps38
    go_wp2_with fail
    go_ret
    exact ⟨ret_int H.out.symm, rfl⟩
set_option maxHeartbeats 800000 in
theorem szStreet_any (s : St) (G T : Option Addr) (c d : Nat) (w : World) (hn : s.gr.length ≤ maxLen) (hm : s.tr.length ≤ maxLen) :
    Calls Try.prog 15 #[strV s G T c d, .int .i64 1048576] w fun e w' => e = .returned (.int .i64 (szS s)) ∧ Below w.heap.size w w' := by
  obtain ⟨cy, gr, tr⟩ := s
  simp only at hn hm
  obtain ⟨h1, h2, h3⟩ := szF_bd (n := gr.length) (left := 1048576) (by omega)
  have hbox := (Below.refl w.heap.size w).alloc (Nat.le_refl _) (.cells (strC ⟨cy, gr, tr⟩ G T c d) 24)
  have hS : szS ⟨cy, gr, tr⟩ = if szF gr.length 1048576 < 0 then -1 else szF tr.length (szF gr.length 1048576) := rfl
  have HS := Lib.hid hS
  clear hS h3
  go_enter Try.func15, Try.ntmps15
  go_wp2_with fail
  refine (szIntS_any G gr.length c 1048576 _ hn (by omega) (by omega)).mono ?_
  rintro e w' ⟨rfl, rfl⟩
  generalize szF gr.length 1048576 = x at *
  by_cases h : x < 0
  · have H := Lib.hid (show -1 = szS ⟨cy, gr, tr⟩ by rw [HS.out, if_pos h])
    go_wp2_with fail
    go_ret
    exact ⟨ret_int H.out, hbox⟩
  · obtain ⟨h4, h5, -⟩ := szF_bd (n := tr.length) (left := x) (by omega)
    go_wp2_with fail
    refine (szIntS_any T tr.length d x _ hm (by omega) (by omega)).mono ?_
    rintro e w' ⟨rfl, rfl⟩
    have H := Lib.hid (show szF tr.length x = szS ⟨cy, gr, tr⟩ by rw [HS.out, if_neg (by omega)])
    generalize szF tr.length x = y at *
    by_cases h7 : y < 0
    · have H2 := Lib.hid (show -1 = szS ⟨cy, gr, tr⟩ by rw [← H.out]; omega)
      go_wp2_with fail
      go_ret
      exact ⟨ret_int H2.out, hbox⟩
    · go_wp2_with fail
      go_ret
      exact ⟨ret_int H.out, hbox⟩

set_option maxHeartbeats 800000 in
theorem eqStreet_same (s : St) (G T G' T' : Option Addr) (c d c' d' : Nat) (w : World) (h1 : RdS w s G T) (h2 : RdS w s G' T') :
    Calls Try.prog 20 #[strV s G T c d, strV s G' T' c' d'] w fun e w' => e = .returned (.bool true) ∧ Below w.heap.size w w' := by
  obtain ⟨cy, gr, tr⟩ := s
  have b1 := (Blk.new w 27 (strC ⟨cy, gr, tr⟩ G T c d)).alloc (.cells (strC ⟨cy, gr, tr⟩ G' T' c' d') 27)
  have b2 := Blk.new2 w (.cells (strC ⟨cy, gr, tr⟩ G T c d) 27) 27 (strC ⟨cy, gr, tr⟩ G' T' c' d')
  have hB := ((Below.refl w.heap.size w).alloc (Nat.le_refl _) (.cells (strC ⟨cy, gr, tr⟩ G T c d) 27)).alloc (by simp) (.cells (strC ⟨cy, gr, tr⟩ G' T' c' d') 27)
  go_enter Try.func20, Try.ntmps20
  go_wp2_with fail
  refine (eqIntS_same gr G G' c c' _ (h1.hg.below hB) (h2.hg.below hB) h1.ng).mono ?_
  rintro e w1 ⟨rfl, v1⟩
  replace b1 := b1.below v1 (by simp; omega)
  replace b2 := b2.below v1 (by simp)
  replace hB := hB.trans (v1.mono (by simp; omega))
  obtain ⟨k0, k1, k2⟩ := loadS b1
  obtain ⟨j0, j1, j2⟩ := loadS b2
  have z1 := b2.lt
  clear v1
  go_wp2_with fail
  refine (eqIntS_same tr T T' d d' _ (h1.ht.below hB) (h2.ht.below hB) h1.nt).mono ?_
  rintro e w2 ⟨rfl, v2⟩
  replace hB := hB.trans (v2.mono (by omega))
  clear v2 k0 k1 k2 j0 j1 j2
  go_wp2_with fail
  go_ret
  exact ⟨rfl, hB⟩

/-- Both lists of a street are overwritten. -/
def MarkSt (w : World) (G T : Option Addr) (k : Int) (e : Ending) (w' : World) : Prop :=
  e = .returned (.int .i64 k) ∧ ∃ w1, w.grownBy w1 (blk G) ∧ w1.grownBy w' (blk T)
set_option maxHeartbeats 800000 in
theorem markStreet_any (s : St) (G T : Option Addr) (c d lo lo' : Nat) (w : World) (h1 : OwnO fI w lo 3 G c s.gr) (h2 : OwnO fI w lo' 3 T d s.tr) (hs : Sep G T) (hn : s.gr.length ≤ 2000000) (hm : s.tr.length ≤ 2000000) :
    Calls Try.prog 24 #[strV s G T c d, .int .i64 1] w (MarkSt w G T (1 + s.gr.length + s.tr.length)) := by
  obtain ⟨cy, gr, tr⟩ := s
  simp only at h1 h2 hn hm
  have bx := Blk.new w 27 (strC ⟨cy, gr, tr⟩ G T c d)
  have hlt := h1.lt
  replace h1 := h1.alloc (.cells (strC ⟨cy, gr, tr⟩ G T c d) 27)
  replace h2 := h2.alloc (.cells (strC ⟨cy, gr, tr⟩ G T c d) 27)
  go_enter Try.func24, Try.ntmps24
  go_wp2_with fail
  refine (markIntS_any gr G c _ 1 _ h1 hn (by omega) (by omega)).mono ?_
  rintro e w1 ⟨rfl, -, g1⟩
  replace bx := bx.grown g1 (fun e => by have := (hlt _ e.symm).2; omega)
  replace h2 := h2.grown g1 hs.or
  have g0 := only_trans (only_alloc (only_refl w (blk G)) (.cells (strC ⟨cy, gr, tr⟩ G T c d) 27)) g1
  obtain ⟨k0, k1, k2⟩ := loadS bx
  clear g1 h1
  go_wp2_with fail
  refine (markIntS_any tr T d _ (1 + (gr.length : Int)) _ h2 hm (by omega) (by omega)).mono ?_
  rintro e w2 ⟨rfl, -, g2⟩
  clear k0 k1 k2 h2
  go_wp2_with fail
  go_ret
  exact ⟨rfl, w1, g0, g2⟩
end Go.Proofs.Ytmnapeefclkldaa
