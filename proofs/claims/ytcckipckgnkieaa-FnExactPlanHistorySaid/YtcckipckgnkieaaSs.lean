/-
  Slices of slices: copies, comparisons, marks.
-/
import Derived.Test.YtcckipckgnkieaaSsRd
import Derived.Test.YtcckipckgnkieaaReg
namespace Go.Proofs.Ytcckipckgnkieaa
open Go.RowKit
set_option linter.unusedVariables false

/-- All lengths together. -/
def tot {α : Type} (css : List (List α)) : Nat := (css.map List.length).sum
theorem tot_nil {α : Type} : tot ([] : List (List α)) = 0 := rfl
theorem tot_snoc {α : Type} (css : List (List α)) (xs : List α) : tot (css ++ [xs]) = tot css + xs.length := by simp [tot]
theorem tot_take {α : Type} (css : List (List α)) {k : Nat} (hk : k < css.length) : tot (css.take (k + 1)) = tot (css.take k) + css[k].length := by
  rw [List.take_succ_eq_append_getElem hk, tot_snoc]
theorem tot_le {α : Type} (css : List (List α)) (k : Nat) : tot (css.take k) ≤ tot css := by
  conv => rhs; rw [← List.take_append_drop k css]
  simp only [tot, List.map_append, List.sum_append]
  omega
theorem tot_mem {α : Type} (css : List (List α)) {k : Nat} (hk : k < css.length) : css[k].length ≤ tot css := by
  have h1 := tot_take css hk
  have h2 := tot_le css (k + 1)
  omega

/-- Only the blocks from lo to hi, and what is new, may have turned. -/
def Mid (lo hi : Nat) (w w' : World) : Prop :=
  w'.os = w.os ∧ w'.tape = w.tape ∧ w'.output = w.output ∧ w.heap.size ≤ w'.heap.size ∧ ∀ b, b < w.heap.size → b < lo ∨ hi ≤ b → w'.heap[b]? = w.heap[b]?
theorem Mid.refl (lo hi : Nat) (w : World) : Mid lo hi w w := ⟨rfl, rfl, rfl, Nat.le_refl _, fun _ _ _ => rfl⟩
theorem Mid.grown {lo hi : Nat} {a b c : World} {row : Option Nat} (h : Mid lo hi a b) (hg : b.grownBy c row) (hr : ∀ x, row = some x → lo ≤ x ∧ x < hi) : Mid lo hi a c :=
  ⟨hg.os.trans h.1, hg.tape.trans h.2.1, hg.output.trans h.2.2.1, Nat.le_trans h.2.2.2.1 hg.size, fun x hx hor => (hg.block x (Nat.lt_of_lt_of_le hx h.2.2.2.1) (fun e => by have := hr x e.symm; omega)).trans (h.2.2.2.2 x hx hor)⟩
theorem Mid.below {lo hi : Nat} {a b c : World} (h : Mid lo hi a b) (k : Below b.heap.size b c) : Mid lo hi a c :=
  ⟨k.os.trans h.1, k.tape.trans h.2.1, k.output.trans h.2.2.1, Nat.le_trans h.2.2.2.1 k.size, fun x hx hor => (k.block x (Nat.lt_of_lt_of_le hx h.2.2.2.1)).trans (h.2.2.2.2 x hx hor)⟩
theorem Mid.belowOf {lo hi B : Nat} {w0 w w' : World} (h0 : Below B w0 w) (h : Mid lo hi w w') (hB : B ≤ lo) (hw : B ≤ w.heap.size) : Below B w0 w' :=
  h0.trans ⟨h.1, h.2.1, h.2.2.1, h.2.2.2.1, fun k hk => h.2.2.2.2 k (by omega) (.inl (by omega))⟩
theorem Blk.mid {lo hi : Nat} {w w' : World} {g : Nat} {t : TypeId} {cs : Array Value} (h : Blk w g t cs) (hm : Mid lo hi w w') (hg : g < lo ∨ hi ≤ g) : Blk w' g t cs := (hm.2.2.2.2 g h.lt hg).trans h
theorem OwnO.block {α : Type} {f : α → Value} {w w' : World} {lo : Nat} {e : TypeId} {A : Option Addr} {c : Nat} {xs : List α} (h : OwnO f w lo e A c xs) (hb : ∀ b, blk A = some b → w'.heap[b]? = w.heap[b]?) : OwnO f w' lo e A c xs := by
  rcases h with h | ⟨g, off, cur, rfl, h1, hb', r⟩
  · exact .inl h
  · exact .inr ⟨g, off, cur, rfl, h1, (hb g rfl).trans hb', r⟩
theorem OwnO.mid {lo hi : Nat} {α : Type} {f : α → Value} {w w' : World} {l : Nat} {e : TypeId} {A : Option Addr} {c : Nat} {xs : List α} (h : OwnO f w l e A c xs) (hm : Mid lo hi w w') (hA : ∀ b, blk A = some b → b < lo ∨ hi ≤ b) : OwnO f w' l e A c xs :=
  h.block fun b hb => hm.2.2.2.2 b (h.lt b hb).2 (hA b hb)

/-- The rows of a slice of slices: each a slice of the call's own in a block from lo to hi, no two in one block. -/
def RowsG {α : Type} (f : α → Value) (T0 : TypeId) (w : World) (lo hi : Nat) (ps : List (Option Addr × Nat × Nat)) (css : List (List α)) : Prop :=
  ps.length = css.length ∧ (∀ (k : Nat) (p : Option Addr × Nat × Nat) (xs : List α), ps[k]? = some p → css[k]? = some xs → p.2.1 = xs.length ∧ OwnO f w lo T0 p.1 p.2.2 xs ∧ ∀ b, blk p.1 = some b → b < hi) ∧ ∀ (j k : Nat) (p q : Option Addr × Nat × Nat), j ≠ k → ps[j]? = some p → ps[k]? = some q → Sep p.1 q.1
section
variable {α : Type} {f : α → Value} {T0 : TypeId} {w w' : World} {lo hi : Nat} {ps : List (Option Addr × Nat × Nat)} {css : List (List α)}
theorem RowsG.nil (f : α → Value) (T0 : TypeId) (w : World) (lo hi : Nat) : RowsG f T0 w lo hi [] [] := ⟨rfl, fun k p xs h => by simp at h, fun j k p q _ h => by simp at h⟩
theorem RowsG.row (h : RowsG f T0 w lo hi ps css) {k : Nat} (hk : k < css.length) : ∃ A c, ps[k]? = some (A, (css[k]).length, c) ∧ OwnO f w lo T0 A c css[k] ∧ ∀ b, blk A = some b → b < hi := by
  have hk' : k < ps.length := by rw [h.1]; exact hk
  have h1 := h.2.1 k ps[k] css[k] (List.getElem?_eq_getElem hk') (List.getElem?_eq_getElem hk)
  refine ⟨ps[k].1, ps[k].2.2, ?_, h1.2.1, h1.2.2⟩
  rw [List.getElem?_eq_getElem hk', ← h1.1]
theorem RowsG.block (h : RowsG f T0 w lo hi ps css) (hb : ∀ b, lo ≤ b → b < hi → w'.heap[b]? = w.heap[b]?) : RowsG f T0 w' lo hi ps css :=
  ⟨h.1, fun k p xs h1 h2 => by
    obtain ⟨e1, e2, e3⟩ := h.2.1 k p xs h1 h2
    exact ⟨e1, e2.block fun b hA => hb b (e2.lt b hA).1 (e3 b hA), e3⟩, h.2.2⟩
theorem RowsG.grown {row : Option Nat} (h : RowsG f T0 w lo hi ps css) (hg : w.grownBy w' row) (hne : ∀ (k : Nat) (p : Option Addr × Nat × Nat), ps[k]? = some p → blk p.1 = none ∨ blk p.1 ≠ row) : RowsG f T0 w' lo hi ps css :=
  ⟨h.1, fun k p xs h1 h2 => by
    obtain ⟨e1, e2, e3⟩ := h.2.1 k p xs h1 h2
    exact ⟨e1, e2.grown hg (hne k p h1), e3⟩, h.2.2⟩
theorem RowsG.below (h : RowsG f T0 w lo hi ps css) (hb : Below w.heap.size w w') : RowsG f T0 w' lo hi ps css :=
  h.grown (only_of_below hb none) (fun k p _ => by cases p.1 <;> simp)
theorem RowsG.alloc (h : RowsG f T0 w lo hi ps css) (o : Obj) : RowsG f T0 (w.alloc o) lo hi ps css := h.below ((Below.refl _ _).alloc (Nat.le_refl _) _)
theorem RowsG.mono {hi' : Nat} (h : RowsG f T0 w lo hi ps css) (hh : hi ≤ hi') : RowsG f T0 w lo hi' ps css :=
  ⟨h.1, fun k p xs h1 h2 => by
    obtain ⟨e1, e2, e3⟩ := h.2.1 k p xs h1 h2
    exact ⟨e1, e2, fun b hA => Nat.lt_of_lt_of_le (e3 b hA) hh⟩, h.2.2⟩
/-- One row more, in a block above all others, or in none. -/
theorem RowsG.snoc {hi' : Nat} {A : Option Addr} {c : Nat} {xs : List α} (h : RowsG f T0 w lo hi ps css) (ho : OwnO f w lo T0 A c xs) (hA : ∀ b, blk A = some b → hi ≤ b ∧ b < hi') (hh : hi ≤ hi') : RowsG f T0 w lo hi' (ps ++ [(A, xs.length, c)]) (css ++ [xs]) := by
  obtain ⟨h1, h2, h3⟩ := h.mono hh
  have hlt := h.2.1
  refine ⟨by simp [h1], fun k p ys hp hy => ?_, fun j k p q hjk hp hq => ?_⟩
  · by_cases hk : k < css.length
    · rw [List.getElem?_append_left (by omega)] at hp
      rw [List.getElem?_append_left hk] at hy
      exact h2 k p ys hp hy
    · have hk2 : k = css.length := by
        have := (List.getElem?_eq_some_iff.1 hy).1
        simp at this; omega
      subst hk2
      rw [← h1, List.getElem?_append_right (Nat.le_refl _)] at hp
      rw [List.getElem?_append_right (Nat.le_refl _)] at hy
      simp at hp hy
      subst hp hy
      exact ⟨rfl, ho, fun b hb => (hA b hb).2⟩
  · have old : ∀ i r, i < ps.length → ps[i]? = some r → ∀ b, blk r.1 = some b → b < hi := fun i r hi2 hr b hb => by
      have hi3 : i < css.length := by omega
      exact (hlt i r css[i] hr (List.getElem?_eq_getElem hi3)).2.2 b hb
    by_cases hj : j < ps.length
    · rw [List.getElem?_append_left hj] at hp
      by_cases hk : k < ps.length
      · rw [List.getElem?_append_left hk] at hq
        exact h3 j k p q hjk hp hq
      · have hk2 : k = ps.length := by
          have := (List.getElem?_eq_some_iff.1 hq).1
          simp at this; omega
        subst hk2
        rw [List.getElem?_append_right (Nat.le_refl _)] at hq
        simp at hq
        subst hq
        intro b hb1 hb2
        have := old j p hj hp b hb1
        have := (hA b hb2).1
        omega
    · have hj2 : j = ps.length := by
        have := (List.getElem?_eq_some_iff.1 hp).1
        simp at this; omega
      subst hj2
      rw [List.getElem?_append_right (Nat.le_refl _)] at hp
      simp at hp
      subst hp
      have hk : k < ps.length := by
        have := (List.getElem?_eq_some_iff.1 hq).1
        simp at this; omega
      rw [List.getElem?_append_left hk] at hq
      intro b hb1 hb2
      have := old k q hk hq b hb2
      have := (hA b hb1).1
      omega
end
/-- A slice of slices of the call's own, all its blocks from lo to hi. -/
def OwnG {α : Type} (f : α → Value) (T1 T0 : TypeId) (w : World) (lo hi : Nat) (C : Option Addr) (c : Nat) (css : List (List α)) : Prop :=
  ∃ ps : List (Option Addr × Nat × Nat), OwnO fS w lo T1 C c ps ∧ (∀ b, blk C = some b → b < hi) ∧ RowsG f T0 w lo hi ps css
section
variable {α : Type} {f : α → Value} {T1 T0 : TypeId} {w w' : World} {lo hi : Nat} {C : Option Addr} {c : Nat} {css : List (List α)}
theorem OwnG.rd (h : OwnG f T1 T0 w lo hi C c css) : RdSS f w C css := by
  obtain ⟨ps, h1, _, h2⟩ := h
  refine ⟨ps, h1.rd, h2.1, fun k hk hk' => ?_⟩
  obtain ⟨e1, e2, _⟩ := h2.2.1 k ps[k] css[k] (List.getElem?_eq_getElem hk') (List.getElem?_eq_getElem hk)
  exact ⟨e1, e2.rd⟩
theorem OwnG.block (h : OwnG f T1 T0 w lo hi C c css) (hb : ∀ b, lo ≤ b → b < hi → w'.heap[b]? = w.heap[b]?) : OwnG f T1 T0 w' lo hi C c css := by
  obtain ⟨ps, h1, h3, h2⟩ := h
  exact ⟨ps, h1.block fun b hA => hb b (h1.lt b hA).1 (h3 b hA), h3, h2.block hb⟩
theorem OwnG.below (h : OwnG f T1 T0 w lo hi C c css) (hb : Below w.heap.size w w') : OwnG f T1 T0 w' lo hi C c css := by
  obtain ⟨ps, h1, h3, h2⟩ := h
  exact ⟨ps, h1.below hb, h3, h2.below hb⟩
theorem OwnG.drew (h : OwnG f T1 T0 w lo hi C c css) : OwnG f T1 T0 w.drew lo hi C c css := h.below (Below.refl _ _).drew
theorem OwnG.alloc (h : OwnG f T1 T0 w lo hi C c css) (o : Obj) : OwnG f T1 T0 (w.alloc o) lo hi C c css := h.below ((Below.refl _ _).alloc (Nat.le_refl _) _)
theorem OwnG.mid {a b : Nat} (h : OwnG f T1 T0 w lo hi C c css) (hm : Mid a b w w') (hh : hi ≤ w.heap.size) (hne : hi ≤ a ∨ b ≤ lo) : OwnG f T1 T0 w' lo hi C c css :=
  h.block fun x h1 h2 => hm.2.2.2.2 x (by omega) (by omega)
theorem OwnG.grown {row : Option Nat} (h : OwnG f T1 T0 w lo hi C c css) (hg : w.grownBy w' row) (hh : hi ≤ w.heap.size) (hne : ∀ b, row = some b → b < lo ∨ hi ≤ b) : OwnG f T1 T0 w' lo hi C c css :=
  h.block fun x h1 h2 => hg.block x (by omega) (fun e => by have := hne x e.symm; omega)
theorem OwnG.mono {lo' : Nat} (h : OwnG f T1 T0 w lo hi C c css) (hl : lo' ≤ lo) : OwnG f T1 T0 w lo' hi C c css := by
  obtain ⟨ps, h1, h3, h2, h4, h5⟩ := h
  exact ⟨ps, h1.mono hl, h3, h2, fun k p xs e1 e2 => by
    obtain ⟨x1, x2, x3⟩ := h4 k p xs e1 e2
    exact ⟨x1, x2.mono hl, x3⟩, h5⟩
end
/-- A function hands back a new slice of slices. -/
def NewG {α : Type} (f : α → Value) (T1 T0 : TypeId) (w : World) (css : List (List α)) (e : Ending) (w' : World) : Prop :=
  ∃ D d, e = .returned (.slice D css.length d) ∧ OwnG f T1 T0 w' w.heap.size w'.heap.size D d css ∧ Below w.heap.size w w'
theorem fill_ss {ps : List (Option Addr × Nat × Nat)} {n k : Nat} (hk : ps.length = k) (hn : k < n) (p : Option Addr × Nat × Nat) :
    (ps ++ List.replicate (n - k) (none, 0, 0)).set k p = (ps ++ [p]) ++ List.replicate (n - (k + 1)) (none, 0, 0) := by
  have e : n - k = (n - (k + 1)) + 1 := by omega
  rw [e, List.replicate_succ, List.set_append_right _ _ (by omega), hk, Nat.sub_self, List.set_cons_zero, List.append_assoc]
  rfl
def szG (n t : Nat) (left v : Int) : Prop := (v = -1) ∨ (0 ≤ v ∧ v = left - n - t)





theorem info_S1I : (Try.prog.info? 32).map (fun i => (i.zero, i.size, i.bytes)) = some (some (Value.slice none 0 0), 1, 24) := by kernel_rfl
set_option maxHeartbeats 1600000 in
theorem toIntSS_any (css : List (List Int)) (C : Option Addr) (c : Nat) (w : World) (hr : RdSS fI w C css) (hn : css.length ≤ 1048576) (hl : ∀ k (h : k < css.length), css[k].length ≤ 1048576) :
    Calls Try.prog 27 #[.slice C css.length c] w (NewG fI 32 3 w css) := by
  obtain ⟨i0, hi0, hz0, hz1, hz2⟩ := info_parts info_S1I
  have hmk := fun W => run_make_n (P := Try.prog) 23 32 i0 (Value.slice none 0 0) Try.underlying23 hi0 hz0 hz1 rfl .i64 .i64 css.length css.length (Nat.le_refl _) (by omega) (by omega) W
  have bA := Blk.new w 32 (Array.replicate css.length (Value.slice none 0 0))
  have hA := (OwnL.of_blk (xs := List.replicate css.length ((none : Option Addr), 0, 0)) (f := fS) (lo := w.heap.size) (by simpa [fS] using bA) (Nat.le_refl _) (by simp [maxLen]; omega)).o
  rw [List.length_replicate] at hA
  have hB := (Below.refl w.heap.size w).alloc (Nat.le_refl _) (.cells (Array.replicate css.length (Value.slice none 0 0)) 32)
  have hA0 : OwnO fS (w.alloc (.cells (Array.replicate css.length (Value.slice none 0 0)) 32)) w.heap.size 32 (some ⟨w.heap.size, 0, none⟩) css.length ([] ++ List.replicate (css.length - 0) (none, 0, 0)) := hA
  have hR0 := RowsG.nil fI 3 (w.alloc (.cells (Array.replicate css.length (Value.slice none 0 0)) 32)) w.heap.size (w.alloc (.cells (Array.replicate css.length (Value.slice none 0 0)) 32)).heap.size
  have hgl : w.heap.size < (w.alloc (.cells (Array.replicate css.length (Value.slice none 0 0)) 32)).heap.size := by simp
  clear bA hA
  go_enter Try.func27, Try.ntmps27
  go_wp2_with fail
  clear hmk
  generalize w.alloc (.cells (Array.replicate css.length (Value.slice none 0 0)) 32) = w1 at *
  go_loopw [4] (fun vi wr => ∃ k : Nat, k ≤ css.length ∧ vi = .int .i64 k ∧ (∃ ps, OwnO fS wr w.heap.size 32 (some ⟨w.heap.size, 0, none⟩) css.length (ps ++ List.replicate (css.length - k) (none, 0, 0)) ∧ RowsG fI 3 wr w.heap.size wr.heap.size ps (css.take k)) ∧ Below w.heap.size w wr) (fun vi _ => css.length - (intOf vi).toNat)
  case atStart => exact ⟨0, Nat.zero_le _, rfl, ⟨[], hA0, hR0⟩, hB⟩
  case round =>
    clear hA0 hR0 hB
    obtain ⟨k, hk, rfl, ⟨ps, hO, hR⟩, hB⟩ := hrel
    by_cases hlt : k < css.length
    · obtain ⟨b, o, A, c', rfl, hcw, hrw⟩ := hr.at hlt
      have hcell := (hB.cell (World.block_lt_of_cell? w _ hcw)).trans hcw
      have hrd := hrw.below hB
      have hxl := hl k hlt
      have Htk := Lib.hid (List.take_succ_eq_append_getElem hlt)
      have hpl := Lib.hid (show ps.length = k by rw [hR.1]; simp; omega)
      obtain ⟨xs, hxs⟩ : ∃ xs, xs = css[k] := ⟨_, rfl⟩
      rw [← hxs] at hcell hrd hxl Htk
      clear hxs hcw hrw
      have hct := toIntS_any xs A c' wr hrd hxl
      go_wp2_with fail
      refine hct.mono ?_
      rintro e w5 ⟨A5, c5, rfl, ho5, v5⟩
      have hO5 := hO.below v5
      have hR5 := hR.below v5
      have hB5 := hB.trans (v5.mono hB.size)
      have ho6 := ho5.o
      have hzr := hB.size
      have hR6 := hR5.snoc (hi' := w5.heap.size) (ho6.mono hzr) (fun b hb => ho6.lt b hb) v5.size
      have hkl : k < (ps ++ List.replicate (css.length - k) ((none : Option Addr), 0, 0)).length := by have := hpl.out; simp; omega
      obtain ⟨g', o', e', hca, hfa, -⟩ := hO5.at hkl
      obtain ⟨rfl, rfl⟩ : w.heap.size = g' ∧ 0 = o' := by simpa using e'
      rw [Nat.zero_add] at hca hfa
      have hs := hO5.set (k := k) (x := (A5, xs.length, c5)) hkl
      rw [fill_ss hpl.out hlt, Nat.zero_add] at hs
      have hR7 := hR6.grown (only_set (w := w5) (g := w.heap.size) (k := k) (fS (A5, xs.length, c5))) (fun j p hp => by
        obtain ⟨h1, h2, _⟩ := hR6
        have hj : j < (css.take k ++ [xs]).length := by rw [← h1]; exact (List.getElem?_eq_some_iff.1 hp).1
        have h3 := (h2 j p _ hp (List.getElem?_eq_getElem hj)).2.1
        exact (sepT hO5 h3 (by decide)).or)
      have Hs := Lib.hid hs
      have HR7 := Lib.hid hR7
      have HB7 := Lib.hid (hB5.setCell (p := ⟨w.heap.size, k, none⟩) (Nat.le_refl _) (fS (A5, xs.length, c5)))
      generalize fS _ = z at hca
      clear hct hO hR hB v5 hO5 hR5 hB5 ho5 ho6 hR6 hs hR7 e' hkl
      go_wp2_with fail
      go_roundw
      case rel => exact ⟨k + 1, by omega, by go_num, ⟨ps ++ [(A5, xs.length, c5)], Hs.out, by rw [Htk.out]; exact HR7.out.mono (by simp)⟩, HB7.out⟩
      case measure => simp [intOf]; omega
    · obtain rfl : k = css.length := by omega
      rw [Nat.sub_self, List.replicate_zero, List.append_nil] at hO
      rw [List.take_length] at hR
      have hgw := fun b hb => (hO.lt b hb).2
      go_wp2_with fail
      go_ret
      exact ⟨some ⟨w.heap.size, 0, none⟩, css.length, rfl, ⟨ps, hO, hgw, hR⟩, hB⟩

theorem szI1_any (A : Option Addr) (n c : Nat) (left : Int) (w : World) (hn : n ≤ maxLen) (h0 : 0 ≤ left) (h1 : left ≤ 1048576) :
    Calls Try.prog 58 #[.slice A n c, .int .i64 left] w fun e w' => e = .returned (.int .i64 (if (n : Int) ≤ left then left - n else -1)) ∧ w = w' := by
  unfold maxLen at hn
  by_cases h : (n : Int) ≤ left
  · go_enter Try.func58, Try.ntmps58
    go_wp2_with fail
    go_ret
    exact ⟨rfl, rfl⟩
  · go_enter Try.func58, Try.ntmps58
    go_wp2_with fail
    go_ret
    exact ⟨rfl, rfl⟩
set_option maxHeartbeats 800000 in
theorem szIntSS_any (css : List (List Int)) (C : Option Addr) (c : Nat) (left : Int) (w : World) (hr : RdSS fI w C css) (hn : css.length ≤ maxLen) (hl : ∀ k (h : k < css.length), css[k].length ≤ maxLen) (h0 : 0 ≤ left) (h1 : left ≤ 1048576) :
    Calls Try.prog 25 #[.slice C css.length c, .int .i64 left] w fun e w' => (∃ v, e = .returned (.int .i64 v) ∧ szG css.length (tot css) left v) ∧ Below w.heap.size w w' := by
  have hn2 := hn
  unfold maxLen at hn2
  by_cases hle : (css.length : Int) ≤ left
  case neg =>
    go_enter Try.func25, Try.ntmps25
    go_wp2_with fail
    go_ret
    exact ⟨⟨-1, rfl, .inl rfl⟩, Below.refl _ _⟩
  go_enter Try.func25, Try.ntmps25
  go_wp2_with fail
  go_loopw [1, 5] (fun v1 vi wr => ∃ k : Nat, k ≤ css.length ∧ vi = .int .i64 k ∧ (∃ u, v1 = .int .i64 u ∧ 0 ≤ u ∧ Hid (u = left - css.length - tot (css.take k))) ∧ Below w.heap.size w wr) (fun _ vi _ => css.length - (intOf vi).toNat)
  case atStart => exact ⟨0, Nat.zero_le _, rfl, ⟨_, rfl, by omega, Lib.hid (by simp [tot])⟩, Below.refl _ _⟩
  case round =>
    obtain ⟨k, hk, rfl, ⟨u, rfl, hu0, hu⟩, hB⟩ := hrel
    have hu1 : u ≤ left := by have := hu.out; omega
    by_cases hlt : k < css.length
    · obtain ⟨b, o, A, c', rfl, hcw, -⟩ := hr.at hlt
      have hcell := (hB.cell (World.block_lt_of_cell? w _ hcw)).trans hcw
      have Htk := Lib.hid (tot_take css hlt)
      have hlk := hl k hlt
      have Hlk := Lib.hid hlk
      clear hcw
      generalize css[k].length = n at *
      unfold maxLen at hlk
      go_wp2_with fail
      refine (szI1_any A n c' u _ Hlk.out hu0 (by omega)).mono ?_
      rintro e w' ⟨rfl, rfl⟩
      by_cases hv : (n : Int) ≤ u
      · rw [if_pos hv]
        have hv2 : ¬ (u - n : Int) < 0 := by omega
        have Hu2 := Lib.hid (show u - n = left - css.length - tot (css.take (k + 1)) by have := hu.out; have := Htk.out; omega)
        go_wp2_with fail
        go_roundw
        case rel => exact ⟨k + 1, by omega, by go_num, ⟨_, rfl, by omega, Hu2⟩, hB⟩
        case measure => simp [intOf]; omega
      · rw [if_neg hv]
        go_wp2_with fail
        go_ret
        exact ⟨⟨-1, rfl, .inl rfl⟩, hB⟩
    · obtain rfl : k = css.length := by omega
      have Hu2 := Lib.hid (show u = left - css.length - tot css by have := hu.out; rwa [List.take_length] at this)
      go_wp2_with fail
      go_ret
      exact ⟨⟨u, rfl, .inr ⟨hu0, Hu2.out⟩⟩, hB⟩

set_option maxHeartbeats 800000 in
theorem eqIntSS_same (css : List (List Int)) (C D : Option Addr) (c d : Nat) (w : World) (hx : RdSS fI w C css) (hy : RdSS fI w D css) (hn : css.length ≤ 2000000) (hl : ∀ k (h : k < css.length), css[k].length ≤ 2000000) :
    Calls Try.prog 19 #[.slice C css.length c, .slice D css.length d] w fun e w' => e = .returned (.bool true) ∧ Below w.heap.size w w' := by
  go_enter Try.func19, Try.ntmps19
  go_wp2_with fail
  go_loopw [5] (fun vi wr => ∃ k : Nat, k ≤ css.length ∧ vi = .int .i64 k ∧ Below w.heap.size w wr) (fun vi _ => css.length - (intOf vi).toNat)
  case atStart => exact ⟨0, Nat.zero_le _, rfl, Below.refl _ _⟩
  case round =>
    obtain ⟨k, hk, rfl, hB⟩ := hrel
    by_cases hlt : k < css.length
    · obtain ⟨b, o, A, c', rfl, hcw, hrw⟩ := hx.at hlt
      obtain ⟨b2, o2, A2, c2, rfl, hcw2, hrw2⟩ := hy.at hlt
      have hcell := Grow.cell ((hB.cell (World.block_lt_of_cell? w _ hcw)).trans hcw)
      have hcell2 := Grow.cell ((hB.cell (World.block_lt_of_cell? w _ hcw2)).trans hcw2)
      have hrd := hrw.below hB
      have hrd2 := hrw2.below hB
      have hlk := hl k hlt
      clear hcw hcw2 hrw hrw2
      generalize css[k] = xs at *
      go_wp2_with fail
      refine wp_region_grow wr (by kernel_rfl) (by kernel_rfl) (Below.refl _ _) ?_
      repeat (go_big_quiet_step ((go_at_call 48; exact grow_of (eqIntS_same xs A A2 c' c2 _ (hrd.grow _) (hrd2.grow _) hlk))))
      refine wpQuiet_nil ?_
      rintro _ ⟨z, rfl⟩
      go_wp2_with fail
      go_roundw
      case rel => exact ⟨k + 1, by omega, by go_num, hB.trans (z.h.mono hB.size)⟩
      case measure => simp [intOf]; omega
    · obtain rfl : k = css.length := by omega
      go_wp2_with fail
      go_ret
      exact ⟨rfl, hB⟩

/-- What the marks are. -/
def marksGI (css : List (List Int)) (k : Int) (n : Nat) : List (List Int) := (List.range n).map fun i => marks (css.getD i []).length (k + tot (css.take i))
theorem marksGI_len (css : List (List Int)) (k : Int) (n : Nat) : (marksGI css k n).length = n := by simp [marksGI]
theorem marksGI_succ (css : List (List Int)) (k : Int) {n : Nat} (h : n < css.length) : marksGI css k (n + 1) = marksGI css k n ++ [marks css[n].length (k + tot (css.take n))] := by
  simp [marksGI, List.range_succ, h]
set_option maxHeartbeats 1600000 in
theorem markIntSS_any (css : List (List Int)) (C : Option Addr) (c lo hi : Nat) (k : Int) (w : World) (hO : OwnG fI 32 3 w lo hi C c css) (hhi : hi ≤ w.heap.size) (hn : css.length ≤ 2000000) (ht : tot css ≤ 2000000) (hk0 : 0 ≤ k) (hk : k ≤ 100000000) :
    Calls Try.prog 22 #[.slice C css.length c, .int .i64 k] w fun e w' => e = .returned (.int .i64 (k + tot css)) ∧ OwnG fI 32 3 w' lo hi C c (marksGI css k css.length) ∧ Mid lo hi w w' := by
  obtain ⟨ps, h1, h2, h3⟩ := hO
  go_enter Try.func22, Try.ntmps22
  go_wp2_with fail
  go_loopw [1, 5] (fun v1 vi wr => ∃ j : Nat, j ≤ css.length ∧ vi = .int .i64 j ∧ v1 = .int .i64 (k + (tot (css.take j) : Int)) ∧ OwnO fS wr lo 32 C c ps ∧ RowsG fI 3 wr lo hi ps (marksGI css k j ++ css.drop j) ∧ Mid lo hi w wr) (fun _ vi _ => css.length - (intOf vi).toNat)
  case atStart => exact ⟨0, Nat.zero_le _, rfl, by simp [tot], h1, by simpa [marksGI] using h3, Mid.refl _ _ _⟩
  case round =>
    clear h1 h3
    obtain ⟨j, hj, rfl, rfl, hO, hR, hM⟩ := hrel
    by_cases hlt : j < css.length
    · have hlen : (marksGI css k j ++ css.drop j).length = css.length := by simp [marksGI_len]; omega
      have hget : (marksGI css k j ++ css.drop j)[j]'(by omega) = css[j] := by
        rw [List.getElem_append_right (by rw [marksGI_len]; exact Nat.le_refl _)]
        simp [marksGI_len]
      obtain ⟨A, c', hp, ho, hAhi⟩ := hR.row (k := j) (by omega)
      rw [hget] at hp ho
      have hpl : j < ps.length := (List.getElem?_eq_some_iff.1 hp).1
      obtain ⟨b, o, hC, hcell⟩ := hO.rd.at hpl
      have hpj : ps[j] = (A, css[j].length, c') := by
        rw [List.getElem?_eq_getElem hpl] at hp
        injection hp
      rw [hpj] at hcell
      simp only [fS] at hcell
      subst hC
      have Htk := Lib.hid (tot_take css hlt)
      have Hsucc := Lib.hid (marksGI_succ css k hlt)
      have htl := tot_le css j
      have htm := tot_mem css hlt
      have Hdrop := Lib.hid (List.drop_eq_getElem_cons hlt)
      have hpH := Lib.hid hp
      have HR := Lib.hid hR
      have Hlen := Lib.hid hlen
      obtain ⟨xs, hxs⟩ : ∃ xs, xs = css[j] := ⟨_, rfl⟩
      rw [← hxs] at ho hcell htm Htk Hsucc Hdrop hpH
      clear hxs hp hpj hget hlen hR
      obtain ⟨t, ht2⟩ : ∃ t, t = tot (css.take j) := ⟨_, rfl⟩
      rw [← ht2] at Htk htl Hsucc
      rw [← ht2]
      have Ht2 := Lib.hid ht2
      clear ht2
      have hmk := markIntS_any xs A c' lo (k + (t : Int)) wr ho (by omega) (by omega) (by omega)
      have hal := ho.lt
      go_wp2_with fail
      refine hmk.mono ?_
      rintro e w5 ⟨rfl, m5, g5⟩
      have hM5 := hM.grown g5 (fun x hx => ⟨(hal x hx).1, hAhi x hx⟩)
      have hO5 := hO.grown g5 (sepT hO ho (by decide)).symm.or
      have hR5 : RowsG fI 3 w5 lo hi ps (marksGI css k (j + 1) ++ css.drop (j + 1)) := by
        obtain ⟨r1, r2, r3⟩ := HR.out
        have hl2 : (marksGI css k (j + 1) ++ css.drop (j + 1)).length = css.length := by simp [marksGI_len]; omega
        refine ⟨by rw [hl2, r1, Hlen.out], fun i p ys hpi hyi => ?_, r3⟩
        by_cases e : i = j
        · subst e
          have e1 : p = (A, xs.length, c') := by have := hpH.out; rw [this] at hpi; injection hpi with h; exact h.symm
          have e2 : ys = marks xs.length (k + (t : Int)) := by
            rw [Hsucc.out, List.append_assoc, List.getElem?_append_right (by rw [marksGI_len]; exact Nat.le_refl _), marksGI_len, Nat.sub_self] at hyi
            simp at hyi
            exact hyi.symm
          subst e1 e2
          exact ⟨by simp [marks_length], m5, hAhi⟩
        · have hyi2 : (marksGI css k j ++ css.drop j)[i]? = some ys := by
            rw [Hsucc.out, List.append_assoc, ] at hyi
            rw [Hdrop.out]
            rcases Nat.lt_or_ge i j with hij | hij
            · rw [List.getElem?_append_left (by rw [marksGI_len]; exact hij)] at hyi ⊢
              exact hyi
            · rw [List.getElem?_append_right (by rw [marksGI_len]; exact hij), marksGI_len] at hyi ⊢
              obtain ⟨d, hd⟩ : ∃ d, i - j = d + 1 := ⟨i - j - 1, by omega⟩
              rw [hd] at hyi ⊢
              simpa using hyi
          obtain ⟨q1, q2, q3⟩ := r2 i p ys hpi hyi2
          exact ⟨q1, q2.grown g5 (r3 j i _ p (fun h => e h.symm) hpH.out hpi).or, q3⟩
      clear hmk m5 g5 hO hM ho
      go_wp2_with fail
      go_roundw
      case rel => exact ⟨j + 1, by omega, by go_num, by have := Htk.out; congr 1; omega, hO5, hR5, hM5⟩
      case measure => simp [intOf]; omega
    · obtain rfl : j = css.length := by omega
      rw [List.drop_length, List.append_nil] at hR
      have Ht := Lib.hid (show tot (css.take css.length) = tot css by rw [List.take_length])
      go_wp2_with fail
      go_ret
      exact ⟨by rw [← Ht.out]; rfl, ⟨ps, hO, h2, hR⟩, hM⟩

set_option maxHeartbeats 800000 in
theorem heldIntSS_any (css : List (List Int)) (C : Option Addr) (c : Nat) (k : Int) (w : World) (hr : RdSS fI w C (marksGI css k css.length)) (hn : css.length ≤ 2000000) (ht : tot css ≤ 2000000) (hk0 : 0 ≤ k) (hk : k ≤ 100000000) :
    Calls Try.prog 23 #[.slice C css.length c, .int .i64 k] w fun e w' => e = .returned (.int .i64 (k + tot css)) ∧ Below w.heap.size w w' := by
  go_enter Try.func23, Try.ntmps23
  go_wp2_with fail
  go_loopw [1, 5] (fun v1 vi wr => ∃ j : Nat, j ≤ css.length ∧ vi = .int .i64 j ∧ v1 = .int .i64 (k + (tot (css.take j) : Int)) ∧ Below w.heap.size w wr) (fun _ vi _ => css.length - (intOf vi).toNat)
  case atStart => exact ⟨0, Nat.zero_le _, rfl, by simp [tot], Below.refl _ _⟩
  case round =>
    obtain ⟨j, hj, rfl, rfl, hB⟩ := hrel
    by_cases hlt : j < css.length
    · obtain ⟨b, o, A, c', rfl, hcw, hrw⟩ := hr.at (k := j) (by rw [marksGI_len]; exact hlt)
      have hcell := (hB.cell (World.block_lt_of_cell? w _ hcw)).trans hcw
      have hrd := hrw.below hB
      have hget : (marksGI css k css.length)[j]'(by rw [marksGI_len]; exact hlt) = marks css[j].length (k + tot (css.take j)) := by simp [marksGI, hlt]
      rw [hget, marks_length] at hcell
      rw [hget] at hrd
      have Htk := Lib.hid (tot_take css hlt)
      have htl := tot_le css j
      have htm := tot_mem css hlt
      clear hcw hrw hget
      generalize css[j].length = n at *
      obtain ⟨t, ht2⟩ : ∃ t, t = tot (css.take j) := ⟨_, rfl⟩
      rw [← ht2] at Htk htl hrd
      rw [← ht2]
      clear ht2
      have hct := heldIntS_any A c' n (k + (t : Int)) wr hrd (by omega) (by omega) (by omega)
      go_wp2_with fail
      refine hct.mono ?_
      rintro e w5 ⟨rfl, v5⟩
      have hB5 := hB.trans (v5.mono hB.size)
      have hnn : ¬ (k + (t : Int) + (n : Int)) < 0 := by omega
      clear hct v5 hB
      go_wp2_with fail
      go_roundw
      case rel => exact ⟨j + 1, by omega, by go_num, by have := Htk.out; congr 1; omega, hB5⟩
      case measure => simp [intOf]; omega
    · obtain rfl : j = css.length := by omega
      have Ht := Lib.hid (show tot (css.take css.length) = tot css by rw [List.take_length])
      go_wp2_with fail
      go_ret
      exact ⟨by rw [← Ht.out]; rfl, hB⟩
end Go.Proofs.Ytcckipckgnkieaa
