/-
  Stages as data: copies.
-/
import Derived.Test.YtcckipckgnkieaaPlSt
import Derived.Test.YtcckipckgnkieaaPlStage
namespace Go.Proofs.Ytcckipckgnkieaa
open Go.RowKit
set_option linter.unusedVariables false

theorem or_rbS {A : Option Addr} {rb : Nat} (h : ∀ b, blk A = some b → b ≠ rb) : blk A = none ∨ blk A ≠ some rb := by
  cases hA : blk A with
  | none => exact .inl rfl
  | some b => exact .inr fun e => h b hA (by injection e)
set_option maxHeartbeats 1600000 in
theorem toStage_any (m : List Int) (g : Int) (A : Option Addr) (c : Nat) (w : World) (hr : RdL fI w A m) (hn : m.length ≤ 1048576) :
    Calls Try.prog 80 #[.agg #[.slice A m.length c, .int .i64 g]] w fun e w' => ∃ A' c', e = .returned (.agg #[.slice A' m.length c', .int .i64 g]) ∧ OwnO fI w' w.heap.size 3 A' c' m ∧ Below w.heap.size w w' := by
  have hs1 : (w.alloc (.cells #[.slice A m.length c, .int .i64 g] 87)).heap.size = w.heap.size + 1 := by simp
  have hs2 : ((w.alloc (.cells #[.slice A m.length c, .int .i64 g] 87)).alloc (.cells #[.slice none 0 0, .int .i64 0] 79)).heap.size = w.heap.size + 1 + 1 := by simp
  have b0 := ((Blk.new w 87 #[.slice A m.length c, .int .i64 g]).alloc (.cells #[.slice none 0 0, .int .i64 0] 79)).alloc (.cells #[.slice none 0 0, .int .i64 0] 79)
  have b1 := (Blk.new (w.alloc (.cells #[.slice A m.length c, .int .i64 g] 87)) 79 #[.slice none 0 0, .int .i64 0]).alloc (.cells #[.slice none 0 0, .int .i64 0] 79)
  have b2 := Blk.new ((w.alloc (.cells #[.slice A m.length c, .int .i64 g] 87)).alloc (.cells #[.slice none 0 0, .int .i64 0] 79)) 79 #[.slice none 0 0, .int .i64 0]
  rw [hs1] at b1
  rw [hs2] at b2
  have hB := (((Below.refl w.heap.size w).alloc (Nat.le_refl _) (.cells #[.slice A m.length c, .int .i64 g] 87)).alloc (by simp) (.cells #[.slice none 0 0, .int .i64 0] 79)).alloc (by simp; omega) (.cells #[.slice none 0 0, .int .i64 0] 79)
  clear hs1 hs2
  go_enter Try.func80, Try.ntmps80
  go_wp2_with fail
  generalize ((w.alloc (.cells #[.slice A m.length c, .int .i64 g] 87)).alloc (.cells #[.slice none 0 0, .int .i64 0] 79)).alloc (.cells #[.slice none 0 0, .int .i64 0] 79) = W at *
  have hz := hB.size
  have hl2 := b2.lt
  refine (toIntS_any m A c _ (hr.below hB) hn).mono ?_
  rintro e w2 ⟨A', c', rfl, ho, v2⟩
  have ho2 := ho.o.mono (show w.heap.size ≤ W.heap.size by omega)
  have hol := ho.o.lt
  have hne : ∀ b, blk A' = some b → b ≠ w.heap.size + 1 ∧ b ≠ w.heap.size + 1 + 1 := fun b hb => by have := (hol b hb).1; omega
  have V2 := hB.trans (v2.mono hz)
  have d0 := b0.below v2 b0.lt
  have d1 := b1.below v2 b1.lt
  have d2 := b2.below v2 b2.lt
  have x1 : w2.cell? ⟨w.heap.size, 1, none⟩ = some (.int .i64 g) := d0.cell 1
  have y0 : w2.cell? ⟨w.heap.size + 1, 0, none⟩ = some (.slice none 0 0) := d1.cell 0
  have y1 : w2.cell? ⟨w.heap.size + 1, 1, none⟩ = some (.int .i64 0) := d1.cell 1
  have yf := d1.frozen
  have z0 : w2.cell? ⟨w.heap.size + 1 + 1, 0, none⟩ = some (.slice none 0 0) := d2.cell 0
  have z1 : w2.cell? ⟨w.heap.size + 1 + 1, 1, none⟩ = some (.int .i64 0) := d2.cell 1
  have zf := d2.frozen
  clear b0 b1 b2 d0 d1 d2 ho v2 hol hB hl2 hz hr
  go_wp2_with fail
  refine bodyPost_ret (v := .agg #[.slice A' m.length c', .int .i64 g]) (by simp [results, Try.results80, go_sem, y0, y1]) rfl ⟨A', c', rfl, ?_, ?_⟩
  · have q := fun (W W' : World) (b : Nat) (hg : W.grownBy W' (some b)) (hb : b = w.heap.size + 1 ∨ b = w.heap.size + 1 + 1) (h : OwnO fI W w.heap.size 3 A' c' m) => h.grown hg (or_rbS (fun x hx => by have := hne x hx; omega))
    exact q _ _ _ (only_set (g := w.heap.size + 1) (k := 1) _) (.inl rfl) (q _ _ _ (only_set (g := w.heap.size + 1) (k := 0) _) (.inl rfl) (q _ _ _ (only_set (g := w.heap.size + 1 + 1) (k := 1) _) (.inr rfl) (q _ _ _ (only_set (w := w2) (g := w.heap.size + 1 + 1) (k := 0) _) (.inr rfl) ho2)))
  · exact (((V2.setCell (p := ⟨w.heap.size + 1 + 1, 0, none⟩) (by simp; omega) _).setCell (p := ⟨w.heap.size + 1 + 1, 1, none⟩) (by simp; omega) _).setCell (p := ⟨w.heap.size + 1, 0, none⟩) (by simp) _).setCell (p := ⟨w.heap.size + 1, 1, none⟩) (by simp) _
end Go.Proofs.Ytcckipckgnkieaa
