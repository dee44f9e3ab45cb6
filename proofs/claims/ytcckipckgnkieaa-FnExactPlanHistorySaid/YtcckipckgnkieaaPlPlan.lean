/-
  Plans that are read; the reference's gap, cycle and stage.
-/
import Derived.Test.YtcckipckgnkieaaPlChg
namespace Go.Proofs.Ytcckipckgnkieaa
open Go.RowKit
set_option linter.unusedVariables false

/-- The cells of a plan. -/
abbrev plC (p : Pl) (T : Option Addr) (c : Nat) (S : Option Addr) (d : Nat) : Array Value := #[.slice T p.tb.length c, .slice S p.sg.length d]
abbrev plV (p : Pl) (T : Option Addr) (c : Nat) (S : Option Addr) (d : Nat) : Value := .agg (plC p T c S d)
structure RdP (w : World) (T S : Option Addr) (p : Pl) : Prop where
  t : RdSS fI w T p.tb
  s : ∀ i, i < p.sg.length → ∃ b o A c, S = some ⟨b, o, none⟩ ∧ w.cell? ⟨b, o + i * 2, none⟩ = some (.slice A (ph p i).length c) ∧ w.cell? ⟨b, o + i * 2 + 1, none⟩ = some (.int .i64 (gr p i)) ∧ RdL fI w A (ph p i) ∧ (ph p i).length ≤ c
theorem RdP.below {w w' : World} {T S : Option Addr} {p : Pl} (h : RdP w T S p) (hb : Below w.heap.size w w') : RdP w' T S p := by
  refine ⟨h.t.below hb, fun i hi => ?_⟩
  obtain ⟨b, o, A, c, h1, h2, h3, h4, h5⟩ := h.s i hi
  exact ⟨b, o, A, c, h1, (hb.cell (World.block_lt_of_cell? w _ h2)).trans h2, (hb.cell (World.block_lt_of_cell? w _ h3)).trans h3, h4.below hb, h5⟩
theorem boxP_at (w : World) (p : Pl) (T : Option Addr) (c : Nat) (S : Option Addr) (d : Nat) :
    Below w.heap.size w (w.alloc (.cells (plC p T c S d) 26)) ∧ (w.alloc (.cells (plC p T c S d) 26)).cell? ⟨w.heap.size, 0, none⟩ = some (.slice T p.tb.length c) ∧ (w.alloc (.cells (plC p T c S d) 26)).cell? ⟨w.heap.size, 1, none⟩ = some (.slice S p.sg.length d) ∧ w.heap.size < (w.alloc (.cells (plC p T c S d) 26)).heap.size := by
  have h := Blk.new w 26 (plC p T c S d)
  exact ⟨(Below.refl _ _).alloc (Nat.le_refl _) _, by rw [h.cell 0]; rfl, by rw [h.cell 1]; rfl, by simp⟩
theorem nx_mod {p : Pl} (h : GoodP p) {i : Nat} (hi : i < p.sg.length) : ((i : Int) + 1).tmod (p.sg.length : Int) = (nx p i : Int) := by
  rw [show ((i : Int) + 1) = ((i + 1 : Nat) : Int) by omega]
  exact (Int.ofNat_tmod (i + 1) p.sg.length).symm

set_option maxHeartbeats 1600000 in
theorem sGap_v (p : Pl) (i : Nat) (v : Int) (hv : gapP p i = v) (T S : Option Addr) (c d : Nat) (w : World) (hr : RdP w T S p) (hg : GoodP p) (hi : i < p.sg.length) :
    Calls Try.prog 75 #[plV p T c S d, .int .i64 (i : Int)] w fun e w' => e = .returned (.int .i64 v) ∧ Below w.heap.size w w' := by
  have hn8 := hg.c.n2
  have hs5 := hg.s2
  have hs1 := hg.s1
  obtain ⟨hB, hb0, hb1, hlt⟩ := boxP_at w p T c S d
  obtain ⟨b, o, A, c1, rfl, e1, -, e2, -⟩ := hr.s i hi
  obtain ⟨b', o', A', c2, e', e3, -, e4, -⟩ := hr.s (nx p i) (nx_lt hg i)
  obtain ⟨rfl, rfl⟩ : b = b' ∧ o = o' := by simpa using e'
  have hmod := nx_mod hg hi
  have hnl := nx_lt hg i
  have hwr : IntKind.i64.wrap ((i : Int) + 1) = (i : Int) + 1 := by simp [IntKind.wrap, IntKind.bits, IntKind.signed]; omega
  have hn0 : ¬ (p.sg.length : Int) = 0 := by omega
  have hi1 : (i : Int) < (p.sg.length : Int) := by omega
  have hi2 : (nx p i : Int) < (p.sg.length : Int) := by omega
  have Hch : ∀ y, Below w.heap.size w y → Calls Try.prog 93 #[.slice T p.tb.length c, .slice A (ph p i).length c1, .slice A' (ph p (nx p i)).length c2] y fun e w' => e = .returned (.int .i64 v) ∧ Below y.heap.size y w' := fun y hy =>
    sChg_v p.tb (ph p i) (ph p (nx p i)) v hv T A A' c c1 c2 y (hr.t.below hy) (e2.below hy) (e4.below hy) hg.c (hg.m i hi) (hg.m _ (nx_lt hg i))
  have e1' := (hB.cell (World.block_lt_of_cell? w _ e1)).trans e1
  have e3' := (hB.cell (World.block_lt_of_cell? w _ e3)).trans e3
  clear hv hr hg e1 e2 e3 e4 e'
  go_enter Try.func75, Try.ntmps75
  go_wp2_with fail
  generalize w.alloc (.cells (plC p T c (some ⟨b, o, none⟩) d) 26) = W at *
  have k0 := Grow.cell hb0
  have k1 := Grow.cell hb1
  have k2 := Grow.cell e1'
  have k3 := Grow.cell e3'
  have hch : ∀ y : Grow W, _ := fun y => Hch y.x (hB.trans (y.h.mono hB.size))
  clear Hch hb0 hb1 e1' e3'
  refine wp_region_grow W (by kernel_rfl) (by kernel_rfl) (Below.refl _ _) ?_
  repeat (go_big_quiet_step ((go_at_call 93; exact grow_of (hch _))))
  refine wpQuiet_nil ?_
  rintro _ ⟨z, rfl⟩
  go_wp2_with fail
  go_ret
  exact ⟨rfl, hB.trans (z.h.mono hB.size)⟩
theorem bg_ge {p : Pl} (h : GoodP p) {i : Nat} (hi : i < p.sg.length) : 0 ≤ bg p i ∧ bg p i ≤ 225 ∧ 5 ≤ gr p i ∧ gr p i ≤ 40 ∧ 0 ≤ gapP p i ∧ gapP p i ≤ 5 := by
  have h1 := bg_bd h i (by omega)
  have h2 := h.g i hi
  have h3 := gap_bd h hi
  have := h.s2
  exact ⟨by omega, by omega, h2.1, h2.2, h3.1, h3.2⟩

set_option maxHeartbeats 1600000 in
theorem sCyc_v (p : Pl) (v : Int) (hv : cyc p = v) (T S : Option Addr) (c d : Nat) (w : World) (hr : RdP w T S p) (hg : GoodP p) :
    Calls Try.prog 41 #[plV p T c S d] w fun e w' => e = .returned (.int .i64 v) ∧ Below w.heap.size w w' := by
  have hs5 := hg.s2
  have hs1 := hg.s1
  obtain ⟨hB, hb0, hb1, hlt⟩ := boxP_at w p T c S d
  have Hg := Lib.hid hg
  have Hr := Lib.hid hr
  have Hv := Lib.hid hv
  clear hv hr hg
  go_enter Try.func41, Try.ntmps41
  go_wp2_with fail
  generalize w.alloc (.cells (plC p T c S d) 26) = W at *
  go_loopw [3, 4] (fun vm vi wr => ∃ i : Nat, i ≤ p.sg.length ∧ vi = .int .i64 i ∧ vm = .int .i64 (bg p i) ∧ Below W.heap.size W wr) (fun _ vi _ => p.sg.length - (intOf vi).toNat)
  case atStart => exact ⟨0, Nat.zero_le _, rfl, rfl, Below.refl _ _⟩
  case round =>
    obtain ⟨i, hi, rfl, rfl, hW⟩ := hrel
    have c0 := (hW.cell (World.block_lt_of_cell? W _ hb0)).trans hb0
    have c1 := (hW.cell (World.block_lt_of_cell? W _ hb1)).trans hb1
    by_cases hlti : i < p.sg.length
    · obtain ⟨b, o, A, c2, rfl, e1, e2, -⟩ := Hr.out.s i hlti
      have e2' := (hB.cell (World.block_lt_of_cell? w _ e2)).trans e2
      have hbd := bg_ge Hg.out hlti
      have H := Lib.hid (show bg p (i + 1) = bg p i + gr p i + gapP p i by rw [bg]; omega)
      have hch : ∀ y : Grow W, Calls Try.prog 75 #[plV p T c (some ⟨b, o, none⟩) d, .int .i64 (i : Int)] y.x fun e w' => e = .returned (.int .i64 (gapP p i)) ∧ Below y.x.heap.size y.x w' := fun y => sGap_v p i (gapP p i) rfl T (some ⟨b, o, none⟩) c d y.x (Hr.out.below (hB.trans (y.h.mono hB.size))) Hg.out hlti
      generalize gr p i = x at *
      generalize gapP p i = z at *
      generalize bg p i = u at *
      have k0 := Grow.cell hb0
      have k1 := Grow.cell hb1
      have k2 := Grow.cell e2'
      have hi1 : (i : Int) < (p.sg.length : Int) := by omega
      have hw1 : IntKind.i64.wrap (u + x) = u + x := by simp [IntKind.wrap, IntKind.bits, IntKind.signed]; omega
      have hw2 : IntKind.i64.wrap (u + x + z) = u + x + z := by simp [IntKind.wrap, IntKind.bits, IntKind.signed]; omega
      clear e1 e2 e2'
      go_wp2_with fail
      refine wp_region_grow W (by kernel_rfl) (by kernel_rfl) hW ?_
      repeat (go_big_quiet_step ((go_at_call 75; exact grow_of (hch _))))
      refine wpQuiet_nil ?_
      rintro _ ⟨z2, rfl⟩
      clear c0 c1
      go_wp2_with fail
      go_roundw
      case rel => first | exact ⟨i + 1, by omega, by go_num, by rw [H.out], z2.h⟩ | ((repeat apply Exists.intro); exact ⟨⟨i + 1, by omega, by go_num, by rw [H.out], z2.h⟩, rfl⟩)
      case measure => simp [intOf]; omega
    · obtain rfl : i = p.sg.length := by omega
      have H := Lib.hid (show bg p p.sg.length = v from Hv.out)
      go_wp2_with fail
      go_ret
      exact ⟨ret_int H.out, hB.trans (hW.mono hB.size)⟩

set_option maxHeartbeats 1600000 in
theorem sStg_v (p : Pl) (s : Int) (k : Nat) (x : Int) (hk : stg p s = k) (hx : s - bg p k = x) (T S : Option Addr) (c d : Nat) (w : World) (hr : RdP w T S p) (hg : GoodP p) (h0 : 0 ≤ s) (h1 : s < cyc p) :
    Calls Try.prog 73 #[plV p T c S d, .int .i64 s] w fun e w' => e = .returned (.tuple #[.int .i64 (k : Int), .int .i64 x]) ∧ Below w.heap.size w w' := by
  have hs5 := hg.s2
  have hs1 := hg.s1
  have hc2 := (cyc_bd hg).2
  obtain ⟨hB, hb0, hb1, hlt⟩ := boxP_at w p T c S d
  have Hg := Lib.hid hg
  have Hr := Lib.hid hr
  have Hk := Lib.hid hk
  have Hx := Lib.hid hx
  have H1 := Lib.hid h1
  have hs225 : s < 225 := by omega
  clear hr hg hk hx h1
  go_enter Try.func73, Try.ntmps73
  go_wp2_with fail
  generalize w.alloc (.cells (plC p T c S d) 26) = W at *
  go_loopw [1, 6] (fun vs vi wr => ∃ i : Nat, i < p.sg.length ∧ vi = .int .i64 i ∧ bg p i ≤ s ∧ vs = .int .i64 (s - bg p i) ∧ Below W.heap.size W wr) (fun _ vi _ => p.sg.length - (intOf vi).toNat)
  case atStart => exact ⟨0, by omega, rfl, by simp [bg]; exact h0, by simp [bg], Below.refl _ _⟩
  case round =>
    obtain ⟨i, hlti, rfl, hle, rfl, hW⟩ := hrel
    have c0 := (hW.cell (World.block_lt_of_cell? W _ hb0)).trans hb0
    have c1 := (hW.cell (World.block_lt_of_cell? W _ hb1)).trans hb1
    obtain ⟨b, o, A, c2, rfl, e1, e2, -⟩ := Hr.out.s i hlti
    have e2' := (hB.cell (World.block_lt_of_cell? w _ e2)).trans e2
    have hbd := bg_ge Hg.out hlti
    have H := Lib.hid (show bg p (i + 1) = bg p i + gr p i + gapP p i by rw [bg]; omega)
    have hch : ∀ y : Grow W, Calls Try.prog 75 #[plV p T c (some ⟨b, o, none⟩) d, .int .i64 (i : Int)] y.x fun e w' => e = .returned (.int .i64 (gapP p i)) ∧ Below y.x.heap.size y.x w' := fun y => sGap_v p i (gapP p i) rfl T (some ⟨b, o, none⟩) c d y.x (Hr.out.below (hB.trans (y.h.mono hB.size))) Hg.out hlti
    have Hend : Hid (s - bg p i < gr p i + gapP p i → k = i ∧ x = s - bg p i) := Lib.hid fun hh => by
      have h2 := H.out
      have e := stg_uniq Hg.out h0 H1.out hlti hle (by omega)
      have h3 := Hk.out
      obtain rfl : k = i := by omega
      exact ⟨rfl, Hx.out.symm⟩
    have Hnext : Hid (gr p i + gapP p i ≤ s - bg p i → i + 1 < p.sg.length ∧ bg p (i + 1) ≤ s) := Lib.hid fun hh => by
      have h2 := H.out
      refine ⟨?_, by omega⟩
      apply Classical.byContradiction
      intro hn
      have h3 : i + 1 = p.sg.length := by omega
      have h4 : bg p (i + 1) = cyc p := by rw [h3]; rfl
      have h5 := H1.out
      omega
    generalize gr p i = a at *
    generalize gapP p i = z at *
    generalize bg p i = u at *
    have k0 := Grow.cell hb0
    have k1 := Grow.cell hb1
    have k2 := Grow.cell e2'
    have hi1 : (i : Int) < (p.sg.length : Int) := by omega
    have hw0 : IntKind.i64.wrap (a + z) = a + z := by simp [IntKind.wrap, IntKind.bits, IntKind.signed]; omega
    clear e1 e2 e2' c0 c1
    by_cases hge : a + z ≤ s - u
    · obtain ⟨n1, n2⟩ := Hnext.out hge
      have N2 := Lib.hid n2
      have hd : decide (a + z ≤ s - u) = true := decide_eq_true hge
      have hw1 : IntKind.i64.wrap (s - u - a) = s - u - a := by simp [IntKind.wrap, IntKind.bits, IntKind.signed]; omega
      have hw2 : IntKind.i64.wrap (s - u - a - z) = s - u - a - z := by simp [IntKind.wrap, IntKind.bits, IntKind.signed]; omega
      clear Hend Hnext n2
      go_wp2_with fail
      refine wp_region_grow W (by kernel_rfl) (by kernel_rfl) hW ?_
      repeat (go_big_quiet_step ((go_at_call 75; exact grow_of (hch _))))
      refine wpQuiet_nil ?_
      rintro _ ⟨z2, rfl⟩
      go_wp2_with fail
      refine wp_region_grow W (by kernel_rfl) (by kernel_rfl) z2.h ?_
      repeat (go_big_quiet_step ((go_at_call 75; exact grow_of (hch _))))
      refine wpQuiet_nil ?_
      rintro _ ⟨z3, rfl⟩
      go_wp2_with fail
      go_roundw
      case rel => first | exact ⟨i + 1, n1, by go_num, N2.out, by rw [H.out]; congr 1; omega, z3.h⟩ | ((repeat apply Exists.intro); exact ⟨⟨i + 1, n1, by go_num, N2.out, by rw [H.out]; congr 1; omega, z3.h⟩, rfl⟩)
      case measure => simp [intOf]; omega
    · obtain ⟨rfl, rfl⟩ := Hend.out (by omega)
      have hd : decide (a + z ≤ s - u) = false := decide_eq_false hge
      clear Hend Hnext
      go_wp2_with fail
      refine wp_region_grow W (by kernel_rfl) (by kernel_rfl) hW ?_
      repeat (go_big_quiet_step ((go_at_call 75; exact grow_of (hch _))))
      refine wpQuiet_nil ?_
      rintro _ ⟨z2, rfl⟩
      go_wp2_with fail
      go_ret2
      exact ⟨rfl, hB.trans (z2.h.mono hB.size)⟩
end Go.Proofs.Ytcckipckgnkieaa
