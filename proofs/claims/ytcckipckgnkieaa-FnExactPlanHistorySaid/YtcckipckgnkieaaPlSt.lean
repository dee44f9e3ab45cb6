/-
  Stages as data: comparisons.
-/
import Derived.Test.YtcckipckgnkieaaPlPlan
import Derived.Test.YtcckipckgnkieaaSs
namespace Go.Proofs.Ytcckipckgnkieaa
open Go.RowKit
set_option linter.unusedVariables false

/-- A slice of stages that is read. -/
def RdG (w : World) (S : Option Addr) (p : Pl) : Prop := ∀ i, i < p.sg.length → ∃ b o A c, S = some ⟨b, o, none⟩ ∧ w.cell? ⟨b, o + i * 2, none⟩ = some (.slice A (ph p i).length c) ∧ w.cell? ⟨b, o + i * 2 + 1, none⟩ = some (.int .i64 (gr p i)) ∧ RdL fI w A (ph p i) ∧ (ph p i).length ≤ c
theorem RdG.below {w w' : World} {S : Option Addr} {p : Pl} (h : RdG w S p) (hb : Below w.heap.size w w') : RdG w' S p := fun i hi => by
  obtain ⟨b, o, A, c, h1, h2, h3, h4, h5⟩ := h i hi
  exact ⟨b, o, A, c, h1, (hb.cell (World.block_lt_of_cell? w _ h2)).trans h2, (hb.cell (World.block_lt_of_cell? w _ h3)).trans h3, h4.below hb, h5⟩
set_option maxHeartbeats 800000 in
theorem eqStage_same (m : List Int) (g : Int) (A B : Option Addr) (c d : Nat) (w : World) (hx : RdL fI w A m) (hy : RdL fI w B m) (hn : m.length ≤ 2000000) :
    Calls Try.prog 81 #[.agg #[.slice A m.length c, .int .i64 g], .agg #[.slice B m.length d, .int .i64 g]] w fun e w' => e = .returned (.bool true) ∧ Below w.heap.size w w' := by
  have hB := ((Below.refl w.heap.size w).alloc (Nat.le_refl _) (.cells #[.slice A m.length c, .int .i64 g] 79)).alloc (by simp) (.cells #[.slice B m.length d, .int .i64 g] 79)
  have hx2 := hx.below hB
  have hy2 := hy.below hB
  go_enter Try.func81, Try.ntmps81
  go_wp2_with fail
  refine (eqIntS_same m A B c d _ hx2 hy2 hn).mono ?_
  rintro e w1 ⟨rfl, v1⟩
  have hs : ((w.alloc (.cells #[.slice A m.length c, .int .i64 g] 79)).alloc (.cells #[.slice B m.length d, .int .i64 g] 79)).heap.size = w.heap.size + 2 := by simp
  have b1 := ((Blk.new w 79 #[.slice A m.length c, .int .i64 g]).alloc (.cells #[.slice B m.length d, .int .i64 g] 79)).below v1 (by rw [hs]; omega)
  have b2' := Blk.new (w.alloc (.cells #[.slice A m.length c, .int .i64 g] 79)) 79 #[.slice B m.length d, .int .i64 g]
  have hs1 : (w.alloc (.cells #[.slice A m.length c, .int .i64 g] 79)).heap.size = w.heap.size + 1 := by simp
  rw [hs1] at b2'
  have b2 := b2'.below v1 (by rw [hs]; omega)
  have c1 : w1.cell? ⟨w.heap.size, 1, none⟩ = some (.int .i64 g) := b1.cell 1
  have c2 : w1.cell? ⟨w.heap.size + 1, 1, none⟩ = some (.int .i64 g) := b2.cell 1
  have hfin := hB.trans (v1.mono (by rw [hs]; omega))
  clear b1 b2 b2' hs hs1 v1 hx2 hy2 hB
  go_wp2_with fail
  go_ret
  exact ⟨rfl, hfin⟩

theorem RdG.go {w w' : World} {S : Option Addr} {p : Pl} (h : RdG w S p) {i : Nat} (hi : i < p.sg.length) : ∃ b o A c, S = some ⟨b, o, none⟩ ∧ w.cell? ⟨b, o + i * 2, none⟩ = some (.slice A (ph p i).length c) ∧ w.cell? ⟨b, o + i * 2 + 1, none⟩ = some (.int .i64 (gr p i)) ∧ RdL fI w A (ph p i) := by
  obtain ⟨b, o, A, c, h1, h2, h3, h4, -⟩ := h i hi
  exact ⟨b, o, A, c, h1, h2, h3, h4⟩
set_option maxHeartbeats 800000 in
theorem eqStageS_same (p : Pl) (S R : Option Addr) (c d : Nat) (w : World) (hx : RdG w S p) (hy : RdG w R p) (hn : p.sg.length ≤ 2000000) (hl : ∀ i, i < p.sg.length → (ph p i).length ≤ 2000000) :
    Calls Try.prog 49 #[.slice S p.sg.length c, .slice R p.sg.length d] w fun e w' => e = .returned (.bool true) ∧ Below w.heap.size w w' := by
  go_enter Try.func49, Try.ntmps49
  go_wp2_with fail
  go_loopw [5] (fun vi wr => ∃ k : Nat, k ≤ p.sg.length ∧ vi = .int .i64 k ∧ Below w.heap.size w wr) (fun vi _ => p.sg.length - (intOf vi).toNat)
  case atStart => exact ⟨0, Nat.zero_le _, rfl, Below.refl _ _⟩
  case round =>
    obtain ⟨k, hk, rfl, hB⟩ := hrel
    by_cases hlt : k < p.sg.length
    · obtain ⟨b, o, A, c1, rfl, e1, e2, e3⟩ := hx.go (w' := w) hlt
      obtain ⟨b2, o2, A2, c2, rfl, f1, f2, f3⟩ := hy.go (w' := w) hlt
      have k0 := Grow.cell e1
      have k1 := Grow.cell e2
      have k2 := Grow.cell f1
      have k3 := Grow.cell f2
      have hct : ∀ y : Grow w, _ := fun y => eqStage_same (ph p k) (gr p k) A A2 c1 c2 y.x (e3.below y.h) (f3.below y.h) (hl k hlt)
      have hk1 : (k : Int) < (p.sg.length : Int) := by omega
      generalize (ph p k).length = m at *
      generalize gr p k = g at *
      clear e1 e2 f1 f2
      go_wp2_with fail
      refine wp_region_grow w (by kernel_rfl) (by kernel_rfl) hB ?_
      repeat (go_big_quiet_step ((go_at_call 81; exact grow_of (hct _))))
      refine wpQuiet_nil ?_
      rintro _ ⟨z, rfl⟩
      clear k0 k1 k2 k3 hct
      go_wp2_with fail
      go_roundw
      case rel => first | exact ⟨k + 1, by omega, by go_num, z.h⟩ | ((repeat apply Exists.intro); exact ⟨⟨k + 1, by omega, by go_num, z.h⟩, rfl⟩)
      case measure => simp [intOf]; omega
    · obtain rfl : k = p.sg.length := by omega
      go_wp2_with fail
      go_ret
      exact ⟨rfl, hB⟩
set_option maxHeartbeats 800000 in
theorem eqPlan_same (p : Pl) (T U S R : Option Addr) (c c' d d' : Nat) (w : World) (hT : RdSS fI w T p.tb) (hU : RdSS fI w U p.tb) (hx : RdG w S p) (hy : RdG w R p) (ht : p.tb.length ≤ 2000000) (htr : ∀ k (h : k < p.tb.length), p.tb[k].length ≤ 2000000) (hn : p.sg.length ≤ 2000000) (hl : ∀ i, i < p.sg.length → (ph p i).length ≤ 2000000) :
    Calls Try.prog 20 #[plV p T c S d, plV p U c' R d'] w fun e w' => e = .returned (.bool true) ∧ Below w.heap.size w w' := by
  have b1 := (Blk.new w 26 (plC p T c S d)).alloc (.cells (plC p U c' R d') 26)
  have hs1 : (w.alloc (.cells (plC p T c S d) 26)).heap.size = w.heap.size + 1 := by simp
  have b2 := Blk.new (w.alloc (.cells (plC p T c S d) 26)) 26 (plC p U c' R d')
  rw [hs1] at b2
  have hB := ((Below.refl w.heap.size w).alloc (Nat.le_refl _) (.cells (plC p T c S d) 26)).alloc (by simp) (.cells (plC p U c' R d') 26)
  clear hs1
  go_enter Try.func20, Try.ntmps20
  go_wp2_with fail
  generalize (w.alloc (.cells (plC p T c S d) 26)).alloc (.cells (plC p U c' R d') 26) = W at *
  have hz := hB.size
  refine (eqIntSS_same p.tb T U c c' _ (hT.below hB) (hU.below hB) ht htr).mono ?_
  rintro e w1 ⟨rfl, v1⟩
  have k1 : w1.cell? ⟨w.heap.size, 1, none⟩ = some (.slice S p.sg.length d) := (b1.below v1 b1.lt).cell 1
  have k2 : w1.cell? ⟨w.heap.size + 1, 1, none⟩ = some (.slice R p.sg.length d') := (b2.below v1 b2.lt).cell 1
  have V1 := hB.trans (v1.mono hz)
  clear b1 b2 v1
  go_wp2_with fail
  refine (eqStageS_same p S R d d' _ (hx.below V1) (hy.below V1) hn hl).mono ?_
  rintro e w2 ⟨rfl, v2⟩
  have V2 := V1.trans (v2.mono V1.size)
  go_wp2_with fail
  go_ret
  exact ⟨rfl, V2⟩
end Go.Proofs.Ytcckipckgnkieaa
