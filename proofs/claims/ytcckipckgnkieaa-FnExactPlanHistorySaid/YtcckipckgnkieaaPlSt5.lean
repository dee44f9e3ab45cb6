/-
  Plans as data: copies.
-/
import Derived.Test.YtcckipckgnkieaaPlSt4
namespace Go.Proofs.Ytcckipckgnkieaa
open Go.RowKit
set_option linter.unusedVariables false

theorem row_block {w w' : World} {lo n d : Nat} {S : Option Addr} {L : List Value} (h : w.ownsRow lo 79 2 (.slice S n d) n L) (hb : ∀ b, blk S = some b → w'.heap[b]? = w.heap[b]?) : w'.ownsRow lo 79 2 (.slice S n d) n L := by
  refine ⟨h.1, ?_⟩
  rcases h.2 with h0 | ⟨g, cap, cur, hv, hl, hk, r⟩
  · exact .inl h0
  · refine .inr ⟨g, cap, cur, hv, hl, (hb g ?_).trans hk, r⟩
    injection hv with e
    subst e
    rfl
theorem row_lower {w : World} {lo lo' n d : Nat} {S : Option Addr} {L : List Value} (h : w.ownsRow lo 79 2 (.slice S n d) n L) (hl : lo' ≤ lo) : w.ownsRow lo' 79 2 (.slice S n d) n L := by
  refine ⟨h.1, ?_⟩
  rcases h.2 with h0 | ⟨g, cap, cur, hv, hl', r⟩
  · exact .inl h0
  · exact .inr ⟨g, cap, cur, hv, Nat.le_trans hl hl', r⟩
section
variable {w w' : World} {lo hi : Nat} {S : Option Addr} {d : Nat} {sg : List (List Int × Int)}
theorem OwnH.block (h : OwnH w lo hi S d sg) (hb : ∀ b, lo ≤ b → b < hi → w'.heap[b]? = w.heap[b]?) : OwnH w' lo hi S d sg := by
  obtain ⟨qs, h1, h3, h2⟩ := h
  exact ⟨qs, row_block h1 fun b hA => hb b (OwnSt.lt h1 b hA).1 (h3 b hA), h3, h2.1.block hb, h2.2⟩
theorem OwnH.below (h : OwnH w lo hi S d sg) (hb : Below w.heap.size w w') : OwnH w' lo hi S d sg := by
  obtain ⟨qs, h1, h3, h2⟩ := h
  exact ⟨qs, row_block h1 fun b hA => hb.block b (OwnSt.lt h1 b hA).2, h3, h2.below hb⟩
end
/-- A copy of a plan, all its blocks from lo to hi. -/
def OwnQ (w : World) (lo hi : Nat) (C : Option Addr) (c : Nat) (S : Option Addr) (d : Nat) (p : Pl) : Prop :=
  ∃ m, lo ≤ m ∧ m ≤ hi ∧ OwnG fI 32 3 w lo m C c p.tb ∧ OwnH w m hi S d p.sg
section
variable {w w' : World} {lo hi : Nat} {C S : Option Addr} {c d : Nat} {p : Pl}
theorem OwnQ.block (h : OwnQ w lo hi C c S d p) (hb : ∀ b, lo ≤ b → b < hi → w'.heap[b]? = w.heap[b]?) : OwnQ w' lo hi C c S d p := by
  obtain ⟨m, h1, h2, h3, h4⟩ := h
  exact ⟨m, h1, h2, h3.block fun b e1 e2 => hb b e1 (by omega), h4.block fun b e1 e2 => hb b (by omega) e2⟩
theorem OwnQ.below (h : OwnQ w lo hi C c S d p) (hb : Below w.heap.size w w') : OwnQ w' lo hi C c S d p := by
  obtain ⟨m, h1, h2, h3, h4⟩ := h
  exact ⟨m, h1, h2, h3.below hb, h4.below hb⟩
theorem OwnQ.alloc (h : OwnQ w lo hi C c S d p) (o : Obj) : OwnQ (w.alloc o) lo hi C c S d p := h.below ((Below.refl _ _).alloc (Nat.le_refl _) _)
theorem OwnQ.drew (h : OwnQ w lo hi C c S d p) : OwnQ w.drew lo hi C c S d p := h.below (Below.refl _ _).drew
theorem OwnQ.mid {a b : Nat} (h : OwnQ w lo hi C c S d p) (hm : Mid a b w w') (hh : hi ≤ w.heap.size) (hne : hi ≤ a ∨ b ≤ lo) : OwnQ w' lo hi C c S d p :=
  h.block fun x h1 h2 => hm.2.2.2.2 x (by omega) (by omega)
theorem OwnQ.grown {row : Option Nat} (h : OwnQ w lo hi C c S d p) (hg : w.grownBy w' row) (hh : hi ≤ w.heap.size) (hne : ∀ b, row = some b → b < lo ∨ hi ≤ b) : OwnQ w' lo hi C c S d p :=
  h.block fun x h1 h2 => hg.block x (by omega) (fun e => by have := hne x e.symm; omega)
theorem OwnQ.lower {lo' : Nat} (h : OwnQ w lo hi C c S d p) (hl : lo' ≤ lo) : OwnQ w lo' hi C c S d p := by
  obtain ⟨m, h1, h2, h3, h4⟩ := h
  exact ⟨m, by omega, h2, h3.mono hl, h4⟩
theorem OwnQ.rdp (h : OwnQ w lo hi C c S d p) : RdP w C S p := by
  obtain ⟨m, h1, h2, h3, h4⟩ := h
  exact h4.pl.rdp h3.rd
theorem OwnQ.rdg (h : OwnQ w lo hi C c S d p) : RdG w S p := h.rdp.s
end

set_option maxRecDepth 100000 in
set_option maxHeartbeats 1600000 in
theorem toPlan_any (p : Pl) (T S : Option Addr) (c d : Nat) (w : World) (hT : RdSS fI w T p.tb) (hr : RdG w S p) (ht : p.tb.length ≤ 1048576) (htr : ∀ k (h : k < p.tb.length), p.tb[k].length ≤ 1048576) (hn : p.sg.length ≤ 1048576) (hl : ∀ k, k < p.sg.length → (ph p k).length ≤ 1048576) :
    Calls Try.prog 18 #[plV p T c S d] w fun e w' => ∃ C c' R d', e = .returned (plV p C c' R d') ∧ p.sg.length ≤ d' ∧ OwnQ w' w.heap.size w'.heap.size C c' R d' p ∧ Below w.heap.size w w' := by
  have hs1 : (w.alloc (.cells (plC p T c S d) 37)).heap.size = w.heap.size + 1 := by simp
  have hs2 : ((w.alloc (.cells (plC p T c S d) 37)).alloc (.cells #[.slice none 0 0, .slice none 0 0] 26)).heap.size = w.heap.size + 1 + 1 := by simp
  have b0 := ((Blk.new w 37 (plC p T c S d)).alloc (.cells #[.slice none 0 0, .slice none 0 0] 26)).alloc (.cells #[.slice none 0 0, .slice none 0 0] 26)
  have b1 := (Blk.new (w.alloc (.cells (plC p T c S d) 37)) 26 #[.slice none 0 0, .slice none 0 0]).alloc (.cells #[.slice none 0 0, .slice none 0 0] 26)
  have b2 := Blk.new ((w.alloc (.cells (plC p T c S d) 37)).alloc (.cells #[.slice none 0 0, .slice none 0 0] 26)) 26 #[.slice none 0 0, .slice none 0 0]
  rw [hs1] at b1
  rw [hs2] at b2
  have hB := (((Below.refl w.heap.size w).alloc (Nat.le_refl _) (.cells (plC p T c S d) 37)).alloc (by simp) (.cells #[.slice none 0 0, .slice none 0 0] 26)).alloc (by simp; omega) (.cells #[.slice none 0 0, .slice none 0 0] 26)
  clear hs1 hs2
  go_enter Try.func18, Try.ntmps18
  go_wp2_with fail
  generalize ((w.alloc (.cells (plC p T c S d) 37)).alloc (.cells #[.slice none 0 0, .slice none 0 0] 26)).alloc (.cells #[.slice none 0 0, .slice none 0 0] 26) = W at *
  have hz := hB.size
  have hl2 := b2.lt
  refine (toIntSS_any p.tb T c _ (hT.below hB) ht htr).mono ?_
  rintro e w2 ⟨C, c', rfl, zC, v2⟩
  have V2 := hB.trans (v2.mono hz)
  have d0 := b0.below v2 b0.lt
  have d1 := b1.below v2 b1.lt
  have d2 := b2.below v2 b2.lt
  have x0 : w2.cell? ⟨w.heap.size, 1, none⟩ = some (.slice S p.sg.length d) := d0.cell 1
  have z0 : w2.cell? ⟨w.heap.size + 1 + 1, 0, none⟩ = some (.slice none 0 0) := d2.cell 0
  have zf := d2.frozen 0
  have HD := Lib.hid (And.intro d0 (And.intro d1 d2))
  have HZ := Lib.hid zC
  have HV := Lib.hid V2
  have Hv2 := Lib.hid v2.size
  clear b0 b1 b2 d0 d1 d2 zC V2 v2 hB
  go_wp2_with fail
  have hd := HD.out
  have d0 := hd.1.far (p := ⟨w.heap.size + 1 + 1, 0, none⟩) (by simp; omega) (.slice C p.tb.length c')
  have d1 := hd.2.1.far (p := ⟨w.heap.size + 1 + 1, 0, none⟩) (by simp) (.slice C p.tb.length c')
  have d2 := hd.2.2.set_ 0 (.slice C p.tb.length c')
  have V3 := HV.out.setCell (p := ⟨w.heap.size + 1 + 1, 0, none⟩) (by simp; omega) (.slice C p.tb.length c')
  have Hv2 := Hv2.out
  have zC := HZ.out.grown (only_set (w := w2) (g := w.heap.size + 1 + 1) (k := 0) (.slice C p.tb.length c')) (Nat.le_refl _) (fun b e => by injection e with e; omega)
  have hsz : (w2.setCell ⟨w.heap.size + 1 + 1, 0, none⟩ (.slice C p.tb.length c')).heap.size = w2.heap.size := by simp
  have Hsz := Lib.hid hsz
  generalize w2.setCell ⟨w.heap.size + 1 + 1, 0, none⟩ (.slice C p.tb.length c') = w3 at *
  clear hsz hd HD HZ HV x0 z0 zf
  refine (toStageS_any p S d w3 (hr.below V3) hn hl).mono ?_
  rintro e w4 ⟨⟨R, d', rfl, hd', zH⟩, v4⟩
  have V4 := V3.trans (v4.mono V3.size)
  have e0 := d0.below v4 d0.lt
  have e1 := d1.below v4 d1.lt
  have e2 := d2.below v4 d2.lt
  have zC4 := zC.below v4
  have hv4 := v4.size
  have y0 : w4.cell? ⟨w.heap.size + 1, 0, none⟩ = some (.slice none 0 0) := e1.cell 0
  have y1 : w4.cell? ⟨w.heap.size + 1, 1, none⟩ = some (.slice none 0 0) := e1.cell 1
  have yf := e1.frozen
  have z0 : w4.cell? ⟨w.heap.size + 1 + 1, 0, none⟩ = some (.slice C p.tb.length c') := by rw [e2.cell 0]; rfl
  have z1 : w4.cell? ⟨w.heap.size + 1 + 1, 1, none⟩ = some (.slice none 0 0) := by rw [e2.cell 1]; rfl
  have zf := e2.frozen
  have hlt2 : w.heap.size + 1 + 1 < W.heap.size := hl2
  have HQ : Hid (OwnQ w4 (w.heap.size + 1 + 1 + 1) w4.heap.size C c' R d' p) := Lib.hid ⟨w2.heap.size, by omega, by have := Hsz.out; omega, (zC4.mono (show w.heap.size + 1 + 1 + 1 ≤ W.heap.size by omega)), by have := Hsz.out; rw [this] at zH; exact zH⟩
  have HV4 := Lib.hid V4
  clear e0 e1 e2 d0 d1 d2 zC zC4 zH v4 V3 V4 hv4 Hv2 hz hl2 hlt2 Hsz hr hT
  go_wp2_with fail
  refine bodyPost_ret (v := plV p C c' R d') (by simp [results, Try.results18, go_sem, y0, y1]) rfl ⟨C, c', R, d', rfl, hd', ?_, ?_⟩
  · have q := fun (V V' : World) (b : Nat) (hg : V.grownBy V' (some b)) (hb : b = w.heap.size + 1 ∨ b = w.heap.size + 1 + 1) (hv : w4.heap.size ≤ V.heap.size) (h : OwnQ V (w.heap.size + 1 + 1 + 1) w4.heap.size C c' R d' p) => h.grown hg hv (fun x e => by injection e with e; omega)
    have q1 := q _ _ _ (only_set (w := w4) (g := w.heap.size + 1 + 1) (k := 1) (.slice R p.sg.length d')) (.inr rfl) (Nat.le_refl _) HQ.out
    have q2 := q _ _ _ (only_set (g := w.heap.size + 1) (k := 0) (.slice C p.tb.length c')) (.inl rfl) (by simp) q1
    have q3 := q _ _ _ (only_set (g := w.heap.size + 1) (k := 1) (.slice R p.sg.length d')) (.inl rfl) (by simp) q2
    have q4 := q3.lower (show w.heap.size ≤ w.heap.size + 1 + 1 + 1 by omega)
    simpa using q4
  · exact ((HV4.out.setCell (p := ⟨w.heap.size + 1 + 1, 1, none⟩) (by simp; omega) _).setCell (p := ⟨w.heap.size + 1, 0, none⟩) (by simp) _).setCell (p := ⟨w.heap.size + 1, 1, none⟩) (by simp) _
end Go.Proofs.Ytcckipckgnkieaa
