/-
  Plans of the program: where stages begin; the cycle.
-/
import Derived.Test.YtcckipckgnkieaaPlImp4
namespace Go.Proofs.Ytcckipckgnkieaa
open Go.RowKit
set_option linter.unusedVariables false

set_option maxRecDepth 100000 in
set_option maxHeartbeats 1600000 in
theorem iBeg_v (p : Pl) (n : Nat) (v : Int) (hv : bg p n = v) (T S : Option Addr) (c d : Nat) (w : World) (hr : RdP w T S p) (hg : GoodP p) (hn : n ≤ p.sg.length) (hsd : p.sg.length ≤ d) :
    Calls Try.prog 76 #[plV p T c S d, .int .i64 (n : Int)] w fun e w' => e = .returned (.int .i64 v) ∧ Below w.heap.size w w' := by
  have hs5 := hg.s2
  have hs1 := hg.s1
  obtain ⟨hB, hb0, hb1, hlt⟩ := boxP_at w p T c S d
  have Hg := Lib.hid hg
  have Hr := Lib.hid hr
  have Hv := Lib.hid hv
  have hzW := hB.size
  obtain ⟨b, o, A0, cc, rfl, -⟩ := hr.s 0 (by omega)
  have hnd : (n : Int) ≤ (d : Int) := by omega
  have hnd2 : n ≤ d := by omega
  clear hv hr hg
  go_enter Try.func76, Try.ntmps76
  go_wp2_with fail
  generalize w.alloc (.cells (plC p T c (some ⟨b, o, none⟩) d) 26) = W at *
  go_loopw [5, 13] (fun vm vi wr => ∃ i : Nat, i ≤ n ∧ vi = .int .i64 i ∧ vm = .int .i64 (bg p i) ∧ Below W.heap.size W wr) (fun _ vi _ => n - (intOf vi).toNat)
  case atStart => exact ⟨0, Nat.zero_le _, rfl, rfl, Below.refl _ _⟩
  case round =>
    obtain ⟨i, hi, rfl, rfl, hW⟩ := hrel
    have hzr := hW.size
    by_cases hlti : i < n
    · have hil : i < p.sg.length := by omega
      obtain ⟨b1, o1, A, c1, e', e1, e1g, e2, -⟩ := Hr.out.s i hil
      obtain ⟨rfl, rfl⟩ : b = b1 ∧ o = o1 := by simpa using e'
      obtain ⟨b2, o2, A', c2, e'', e3, -, e4, -⟩ := Hr.out.s (nx p i) (nx_lt Hg.out i)
      obtain ⟨rfl, rfl⟩ : b = b2 ∧ o = o2 := by simpa using e''
      have V := hB.trans (hW.mono hzW)
      have q1 := (V.cell (World.block_lt_of_cell? w _ e1)).trans e1
      have q2 := (V.cell (World.block_lt_of_cell? w _ e1g)).trans e1g
      have c0 := (hW.cell (World.block_lt_of_cell? W _ hb0)).trans hb0
      have c1' := (hW.cell (World.block_lt_of_cell? W _ hb1)).trans hb1
      have hbd := bg_ge Hg.out hil
      have H := Lib.hid (show bg p (i + 1) = bg p i + (gr p i + gapP p i) from rfl)
      have W1 := hW.alloc hzr (.cells #[.slice A (ph p i).length c1, .int .i64 (gr p i)] 79)
      have B1 := (Below.refl wr.heap.size wr).alloc (Nat.le_refl _) (.cells #[.slice A (ph p i).length c1, .int .i64 (gr p i)] 79)
      have bS := Blk.new wr 79 #[.slice A (ph p i).length c1, .int .i64 (gr p i)]
      have s0 : (wr.alloc (.cells #[.slice A (ph p i).length c1, .int .i64 (gr p i)] 79)).cell? ⟨wr.heap.size, 0, none⟩ = some (.slice A (ph p i).length c1) := bS.cell 0
      have s1 : (wr.alloc (.cells #[.slice A (ph p i).length c1, .int .i64 (gr p i)] 79)).cell? ⟨wr.heap.size, 1, none⟩ = some (.int .i64 (gr p i)) := bS.cell 1
      have d0 := (B1.cell (World.block_lt_of_cell? wr _ c0)).trans c0
      have d1 := (B1.cell (World.block_lt_of_cell? wr _ c1')).trans c1'
      have hnx := fun y (hy : Below W.heap.size W y) => iNext_any p i T (some ⟨b, o, none⟩) c d y (Hr.out.below (hB.trans (hy.mono hzW))) Hg.out hil A' c2 ⟨b, o, rfl, ((hB.trans (hy.mono hzW)).cell (World.block_lt_of_cell? w _ e3)).trans e3⟩
      have hch := fun y (hy : Below W.heap.size W y) => iChg_v p.tb (ph p i) (ph p (nx p i)) (gapP p i) rfl T A A' c c1 c2 y (Hr.out.t.below (hB.trans (hy.mono hzW))) (e2.below (hB.trans (hy.mono hzW))) (e4.below (hB.trans (hy.mono hzW))) Hg.out.c (Hg.out.m i hil) (Hg.out.m _ (nx_lt Hg.out i))
      generalize (ph p (nx p i)).length = m2 at *
      generalize (ph p i).length = m1 at *
      generalize gr p i = x at *
      generalize gapP p i = z at *
      generalize bg p i = u at *
      have hw1 : IntKind.i64.wrap (x + z) = x + z := by simp [IntKind.wrap, IntKind.bits, IntKind.signed]; omega
      have hw2 : IntKind.i64.wrap (u + (x + z)) = u + (x + z) := by simp [IntKind.wrap, IntKind.bits, IntKind.signed]; omega
      have hin : (i : Int) < (n : Int) := by omega
      clear e1 e1g e2 e3 e4 e' e'' bS c0 c1' V
      go_wp2_with fail
      generalize wr.alloc (.cells #[.slice A m1 c1, .int .i64 x] 79) = wa at *
      have k0 := Grow.cell d0
      have k1 := Grow.cell d1
      have k2 := Grow.cell s0
      have k3 := Grow.cell s1
      have hnx' : ∀ y : Grow wa, _ := fun y => hnx y.x (W1.trans (y.h.mono W1.size))
      have hch' : ∀ y : Grow wa, _ := fun y => hch y.x (W1.trans (y.h.mono W1.size))
      clear hnx hch q1 q2 d0 d1 s0 s1
      refine wp_region_grow wa (by kernel_rfl) (by kernel_rfl) (Below.refl _ _) ?_
      repeat (go_big_quiet_step ((first | (go_at_call 78; exact grow_of (hnx' _)) | (go_at_call 94; exact grow_of (hch' _)))))
      refine wpQuiet_nil ?_
      rintro _ ⟨z2, rfl⟩
      have W2 := W1.trans (z2.h.mono W1.size)
      clear k0 k1 k2 k3 hnx' hch'
      go_wp2_with fail
      go_roundw
      case rel => first | exact ⟨i + 1, by omega, by go_num, by rw [H.out], W2⟩ | ((repeat apply Exists.intro); exact ⟨⟨i + 1, by omega, by go_num, by rw [H.out], W2⟩, rfl⟩)
      case measure => simp [intOf]; omega
    · obtain rfl : i = n := by omega
      go_wp2_with fail
      go_ret
      exact ⟨ret_int Hv.out, hB.trans (hW.mono hzW)⟩

theorem iCyc_v (p : Pl) (v : Int) (hv : cyc p = v) (T S : Option Addr) (c d : Nat) (w : World) (hr : RdP w T S p) (hg : GoodP p) (hsd : p.sg.length ≤ d) :
    Calls Try.prog 45 #[plV p T c S d] w fun e w' => e = .returned (.int .i64 v) ∧ Below w.heap.size w w' := by
  obtain ⟨hB, hb0, hb1, hlt⟩ := boxP_at w p T c S d
  have hct := iBeg_v p p.sg.length v hv T S c d _ (hr.below hB) hg (Nat.le_refl _) hsd
  clear hr hg
  go_enter Try.func45, Try.ntmps45
  go_wp2_with fail
  refine hct.mono ?_
  rintro e w1 ⟨rfl, v1⟩
  go_wp2_with fail
  go_ret
  exact ⟨rfl, hB.trans (v1.mono hB.size)⟩
end Go.Proofs.Ytcckipckgnkieaa
