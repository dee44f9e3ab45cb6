/-
  The small functions on lists of ints and bools: copies, comparisons, marks, sums, ranges.
-/
import Derived.Test.YtcckipckgnkieaaRows
import Derived.Test.YtcckipckgnkieaaSl
namespace Go.Proofs.Ytcckipckgnkieaa
open Go.RowKit

/-- A function hands back a new slice that holds xs, and turns nothing that was there. -/
def New {α : Type} (f : α → Value) (T : TypeId) (w : World) (xs : List α) (e : Ending) (w' : World) : Prop :=
  ∃ A cap, e = .returned (.slice A xs.length cap) ∧ OwnL f w' w.heap.size T A cap xs ∧ Below w.heap.size w w'

/-- The same, of a slice that may begin inside its block. -/
def NewS {α : Type} (f : α → Value) (T : TypeId) (w : World) (xs : List α) (e : Ending) (w' : World) : Prop :=
  ∃ A cap, e = .returned (.slice A xs.length cap) ∧ OwnO f w' w.heap.size T A cap xs ∧ Below w.heap.size w w'
theorem New.s {α : Type} {f : α → Value} {T : TypeId} {w : World} {xs : List α} {e : Ending} {w' : World} (h : New f T w xs e w') : NewS f T w xs e w' := by
  obtain ⟨A, c, he, ho, hb⟩ := h
  exact ⟨A, c, he, ho.o, hb⟩

/-- Two slices of the call's own lie in different blocks. -/
def Sep (A B : Option Addr) : Prop := ∀ b, blk A = some b → blk B = some b → False
theorem Sep.symm {A B : Option Addr} (h : Sep A B) : Sep B A := fun b h1 h2 => h b h2 h1
theorem Sep.or {A B : Option Addr} (h : Sep A B) : blk B = none ∨ blk B ≠ blk A := by
  cases hB : blk B with
  | none => exact .inl rfl
  | some b => exact .inr fun e => h b (by rw [← e]) hB
theorem Sep.push {n : Nat} {A A' B : Option Addr} (h : Sep A B) (hB : ∀ b, blk B = some b → b < n) (hA : blk A' = blk A ∨ ∀ b, blk A' = some b → n ≤ b) : Sep A' B := by
  intro b h1 h2
  rcases hA with hA | hA
  · exact h b (by rw [← hA]; exact h1) h2
  · have := hA b h1
    have := hB b h2
    omega
theorem Sep.none {B : Option Addr} : Sep none B := fun b h => by simp at h
/-- An elder slice and a younger one. -/
theorem OwnO.sep {α β : Type} {f : α → Value} {g : β → Value} {w w' : World} {lo lo' : Nat} {T T' : TypeId} {A B : Option Addr} {c d : Nat} {xs : List α} {ys : List β} (h : OwnO f w lo T A c xs) (h' : OwnO g w' lo' T' B d ys) (hl : w.heap.size ≤ lo') : Sep A B := by
  intro b h1 h2
  have h3 := (h.lt b h1).2
  have h4 := (h'.lt b h2).1
  omega
theorem below_mark {w wr w2 : World} {A : Option Addr} {lo : Nat} (h : Below w.heap.size w wr) (ho : ∀ b, blk A = some b → lo ≤ b ∧ b < wr.heap.size) (hl : w.heap.size ≤ lo) (hg : wr.grownBy w2 (blk A)) : Below w.heap.size w w2 :=
  h.grown hg h.size (fun b e => by have := (ho b e).1; omega)

/-- Behind an append to a slice of the call's own: what was there when the call began is as it was. -/
theorem below_push {w wr w2 : World} {o : Obj} {A : Option Addr} (hlo : w.heap.size ≤ wr.heap.size) (h : Below w.heap.size w wr) (ho : ∀ b, blk A = some b → w.heap.size ≤ b ∧ b < wr.heap.size) (hg : (wr.alloc o).grownBy w2 (blk A)) : Below w.heap.size w w2 :=
  (h.alloc hlo o).grown hg (by simp; omega) (fun b e => (ho b e).1)
theorem only_own {w wr w2 : World} {rb : Nat} {row : Option Nat} (h : w.grownBy wr (some rb)) (hg : wr.grownBy w2 row) (hA : ∀ b, row = some b → w.heap.size ≤ b) : w.grownBy w2 (some rb) :=
  ⟨hg.os.trans h.os, hg.tape.trans h.tape, hg.output.trans h.output, Nat.le_trans h.size hg.size, fun i hi hn => (hg.block i (Nat.lt_of_lt_of_le hi h.size) (fun e => by have := hA i e.symm; omega)).trans (h.block i hi hn)⟩

theorem fill_set {α : Type} (f : α → Value) (z : Value) (xs : List α) (k : Nat) (hk : k < xs.length) :
    (((xs.take k).map f ++ List.replicate (xs.length - k) z).toArray).setIfInBounds k (f xs[k]) = ((xs.take (k + 1)).map f ++ List.replicate (xs.length - (k + 1)) z).toArray := by
  have e : xs.length - k = (xs.length - (k + 1)) + 1 := by omega
  have hl : ((xs.take k).map f).length = k := by simp; omega
  apply Array.ext'
  rw [Array.toList_setIfInBounds, e, List.replicate_succ]
  show ((xs.take k).map f ++ z :: List.replicate (xs.length - (k + 1)) z).set k (f xs[k]) = _
  rw [List.set_append_right _ _ (by omega), hl, Nat.sub_self, List.set_cons_zero, List.take_succ_eq_append_getElem hk]
  simp only [List.map_append, List.map_cons, List.map_nil, List.append_assoc, List.singleton_append]
theorem fill_at {α : Type} (f : α → Value) (z : Value) (xs : List α) (k : Nat) (hk : k < xs.length) :
    (((xs.take k).map f ++ List.replicate (xs.length - k) z).toArray)[k]? = some z := by
  have hl : ((xs.take k).map f).length = k := by simp; omega
  rw [List.getElem?_toArray, List.getElem?_append_right (by omega), hl, Nat.sub_self, List.getElem?_replicate, if_pos (by omega)]

theorem take_all {α : Type} (xs : List α) : xs.take xs.length = xs := List.take_length
theorem take_succ_eq {α : Type} {xs ys : List α} {k : Nat} (hx : k < xs.length) (hy : k < ys.length) (h : xs.take k = ys.take k) (he : xs[k] = ys[k]) : xs.take (k + 1) = ys.take (k + 1) := by
  rw [List.take_succ_eq_append_getElem hx, List.take_succ_eq_append_getElem hy, h, he]

/-- What 'mark' writes. -/
def marks (n : Nat) (k : Int) : List Int := (List.range n).map fun (i : Nat) => k + (i : Int)
def marksB (n : Nat) (k : Int) : List Bool := (List.range n).map fun (i : Nat) => decide ((k + (i : Int)) % 3 = 0)
theorem marks_length (n : Nat) (k : Int) : (marks n k).length = n := by simp [marks]
theorem marksB_length (n : Nat) (k : Int) : (marksB n k).length = n := by simp [marksB]
theorem marks_get (n : Nat) (k : Int) (i : Nat) (h : i < (marks n k).length) : (marks n k)[i] = k + (i : Int) := by simp [marks]
theorem marksB_get (n : Nat) (k : Int) (i : Nat) (h : i < (marksB n k).length) : (marksB n k)[i] = decide ((k + (i : Int)) % 3 = 0) := by simp [marksB]

/-- Sums, as the loops build them. -/
def sumL (zs : List Int) : Int := zs.foldl (· + ·) 0
theorem sumL_nil : sumL [] = 0 := rfl
theorem sumL_snoc (zs : List Int) (x : Int) : sumL (zs ++ [x]) = sumL zs + x := by simp [sumL]
theorem sumL_take (zs : List Int) (k : Nat) (hk : k < zs.length) : sumL (zs.take (k + 1)) = sumL (zs.take k) + zs[k] := by
  rw [List.take_succ_eq_append_getElem hk, sumL_snoc]
/-- All numbers of the list lie in a range that no sum leaves. -/
def Small (zs : List Int) : Prop := zs.length ≤ 1000000 ∧ ∀ z ∈ zs, -1000000000 ≤ z ∧ z ≤ 1000000000
theorem sumL_small (zs : List Int) (h : Small zs) (k : Nat) (hk : k ≤ zs.length) : -(1000000000 * (k : Int)) ≤ sumL (zs.take k) ∧ sumL (zs.take k) ≤ 1000000000 * (k : Int) := by
  induction k with
  | zero => simp [sumL]
  | succ k ih =>
    have h1 := ih (by omega)
    have h2 := h.2 zs[k] (List.getElem_mem _)
    rw [sumL_take zs k (by omega)]
    omega

def inB (x lo hi : Int) : Bool := decide (lo ≤ x) && decide (x ≤ hi)
def allB (zs : List Int) (lo hi : Int) : Bool := zs.all fun z => inB z lo hi
theorem allB_snoc (zs : List Int) (lo hi : Int) (k : Nat) (hk : k < zs.length) (h : allB (zs.take k) lo hi = true) : allB (zs.take (k + 1)) lo hi = inB zs[k] lo hi := by
  rw [List.take_succ_eq_append_getElem hk]
  simp only [allB] at *
  rw [List.all_append, h]
  simp
theorem allB_false (zs : List Int) (lo hi : Int) (k : Nat) (hk : k < zs.length) (h : inB zs[k] lo hi = false) : allB zs lo hi = false := by
  have hm := List.getElem_mem (l := zs) (n := k) hk
  simp only [allB]
  rw [List.all_eq_false]
  exact ⟨_, hm, by simp [h]⟩

theorem within_any (x lo hi : Int) (w : World) :
    Calls Try.prog 42 #[.int .i64 x, .int .i64 lo, .int .i64 hi] w fun e w' => e = .returned (.bool (inB x lo hi)) ∧ w = w' := by
  go_enter Try.func42, Try.ntmps42
  go_wp2
  all_goals go_ret
  all_goals (refine ⟨?_, rfl⟩; simp [inB, *]; try omega)
theorem inRange_any (x lo hi : Int) (w : World) :
    Calls Try.prog 39 #[.int .i64 x, .int .i64 lo, .int .i64 hi] w fun e w' => e = .returned (.bool (inB x lo hi)) ∧ w = w' := by
  go_enter Try.func39, Try.ntmps39
  go_wp2
  all_goals go_ret
  all_goals (refine ⟨?_, rfl⟩; simp [inB, *]; try omega)

theorem info_Int : (Try.prog.info? 3).map (fun i => (i.zero, i.size, i.bytes)) = some (some (Value.int .i64 (0)), 1, 8) := by kernel_rfl
theorem toIntS_any (xs : List Int) (A : Option Addr) (cap : Nat) (w : World) (hr : RdL fI w A xs) (hn : xs.length ≤ 1048576) :
    Calls Try.prog 61 #[.slice A xs.length cap] w (New fI 3 w xs) := by
  obtain ⟨i0, hi0, hz0, hz1, hz2⟩ := info_parts info_Int
  have hmk := fun W => run_make_n (P := Try.prog) 32 3 i0 (Value.int .i64 (0)) Try.underlying32 hi0 hz0 hz1 rfl .i64 .i64 xs.length xs.length (Nat.le_refl _) (by omega) (by omega) W
  have h0 := Blk.new w 3 (List.replicate xs.length (Value.int .i64 (0))).toArray
  go_enter Try.func61, Try.ntmps61
  go_wp2_with fail
  clear hmk
  go_loopw [4] (fun i wr => ∃ k : Nat, k ≤ xs.length ∧ i = .int .i64 k ∧ Blk wr w.heap.size 3 ((xs.take k).map fI ++ List.replicate (xs.length - k) (Value.int .i64 (0))).toArray ∧ Below w.heap.size w wr) (fun i _ => xs.length - (intOf i).toNat)
  case atStart => exact ⟨0, Nat.zero_le _, rfl, by simpa using h0, (Below.refl _ _).alloc (Nat.le_refl _) _⟩
  case round =>
    obtain ⟨k, hk, rfl, hb, hbel⟩ := hrel
    by_cases hlt : k < xs.length
    · obtain ⟨b, o, rfl, hc⟩ := (hr.below hbel).at hlt
      have hs := hb.set_ k (fI xs[k])
      rw [fill_set fI _ xs k hlt] at hs
      have hd := hb.cell k
      rw [fill_at fI _ xs k hlt] at hd
      have hf := hb.frozen k
      have Hs := Lib.hid hs
      generalize xs[k] = x at hc Hs
      clear hr h0 hb hs
      go_wp2_with fail
      go_roundw
      case rel => exact ⟨k + 1, by omega, by go_num, Hs.out, hbel.setCell (Nat.le_refl _) _⟩
      case measure => simp [intOf]; omega
    · obtain rfl : k = xs.length := by omega
      rw [take_all] at hb
      have hb' := OwnL.of_blk (f := fI) (xs := xs) (lo := w.heap.size) (by simpa using hb) (Nat.le_refl _) (by unfold maxLen; omega)
      have Hb := Lib.hid hb'
      clear hb hb' h0 hr
      go_wp2_with fail
      go_ret
      exact ⟨_, _, rfl, Hb.out, hbel⟩

theorem eqIntS_any (xs ys : List Int) (A B : Option Addr) (c d : Nat) (w : World) (hx : RdL fI w A xs) (hy : RdL fI w B ys) (hn : xs.length ≤ 2000000) (hm : ys.length ≤ 2000000) :
    Calls Try.prog 48 #[.slice A xs.length c, .slice B ys.length d] w fun e w' => e = .returned (.bool (decide (xs = ys))) ∧ Below w.heap.size w w' := by
  by_cases hl : xs.length = ys.length
  · have H := Lib.hid hl
    have h1 : ys.length ≤ xs.length := by omega
    have h2 : xs.length ≤ ys.length := by omega
    clear hl
    go_enter Try.func48, Try.ntmps48
    go_wp2_with fail
    go_loopw [5] (fun i wr => ∃ k : Nat, k ≤ xs.length ∧ i = .int .i64 k ∧ xs.take k = ys.take k ∧ ∃ m, wr = w.drewN m) (fun i _ => xs.length - (intOf i).toNat)
    case atStart => exact ⟨0, Nat.zero_le _, rfl, rfl, 0, rfl⟩
    case round =>
      obtain ⟨k, hk, rfl, hp, m, rfl⟩ := hrel
      have Hp := Lib.hid hp
      clear hp
      by_cases hlt : k < xs.length
      · have hlt2 : k < ys.length := by omega
        obtain ⟨b1, o1, rfl, hc1⟩ := hx.at hlt
        obtain ⟨b2, o2, rfl, hc2⟩ := hy.at hlt2
        have Hx := Lib.hid hx
        have Hy := Lib.hid hy
        clear hx hy
        by_cases he : xs[k] = ys[k]
        · have hp2 := Lib.hid (take_succ_eq hlt hlt2 Hp.out he)
          rw [← he] at hc2
          clear he
          generalize xs[k] = x at hc1 hc2
          go_wp2_with fail
          go_quiet (fail)
          go_wp2_with fail
          go_roundw
          case rel => exact ⟨k + 1, by omega, by go_num, hp2.out, m + nq, rfl⟩
          case measure => simp [intOf]; omega
        · have hne : decide (xs = ys) = false := by
            rw [decide_eq_false_iff_not]
            intro h
            subst h
            exact he rfl
          have Hne := Lib.hid hne
          clear hne
          generalize xs[k] = x at hc1 he
          generalize ys[k] = y at hc2 he
          have he2 : (x == y) = false := by simpa using he
          clear he
          go_wp2_with fail
          go_quiet (fail)
          go_wp2_with fail
          go_ret
          exact ⟨by rw [Hne.out]; rfl, below_drewN (below_drewN (Below.refl _ _) _) _⟩
      · have he : xs = ys := by
          have h3 := Hp.out
          rw [List.take_of_length_le (by omega), List.take_of_length_le (by omega)] at h3
          exact h3
        have He := Lib.hid he
        clear he
        go_wp2_with fail
        go_ret
        exact ⟨by rw [decide_eq_true He.out]; rfl, below_drewN (Below.refl _ _) _⟩
  · have hne : decide (xs = ys) = false := by
      rw [decide_eq_false_iff_not]
      intro h
      subst h
      exact hl rfl
    have Hne := Lib.hid hne
    have hl2 : (((xs.length : Nat) : Int) == ((ys.length : Nat) : Int)) = false := by simp; omega
    clear hne hl
    go_enter Try.func48, Try.ntmps48
    go_wp2_with fail
    all_goals (go_ret; exact ⟨by rw [Hne.out]; rfl, Below.refl _ _⟩)

theorem equalInts_any (xs ys : List Int) (A B : Option Addr) (c d : Nat) (w : World) (hx : RdL fI w A xs) (hy : RdL fI w B ys) (hn : xs.length ≤ 2000000) (hm : ys.length ≤ 2000000) :
    Calls Try.prog 15 #[.slice A xs.length c, .slice B ys.length d] w fun e w' => e = .returned (.bool (decide (xs = ys))) ∧ Below w.heap.size w w' := by
  by_cases hl : xs.length = ys.length
  · have H := Lib.hid hl
    have h1 : ys.length ≤ xs.length := by omega
    have h2 : xs.length ≤ ys.length := by omega
    clear hl
    go_enter Try.func15, Try.ntmps15
    go_wp2_with fail
    go_loopw [5] (fun i wr => ∃ k : Nat, k ≤ xs.length ∧ i = .int .i64 k ∧ xs.take k = ys.take k ∧ ∃ m, wr = w.drewN m) (fun i _ => xs.length - (intOf i).toNat)
    case atStart => exact ⟨0, Nat.zero_le _, rfl, rfl, 0, rfl⟩
    case round =>
      obtain ⟨k, hk, rfl, hp, m, rfl⟩ := hrel
      have Hp := Lib.hid hp
      clear hp
      by_cases hlt : k < xs.length
      · have hlt2 : k < ys.length := by omega
        obtain ⟨b1, o1, rfl, hc1⟩ := hx.at hlt
        obtain ⟨b2, o2, rfl, hc2⟩ := hy.at hlt2
        have Hx := Lib.hid hx
        have Hy := Lib.hid hy
        clear hx hy
        by_cases he : xs[k] = ys[k]
        · have hp2 := Lib.hid (take_succ_eq hlt hlt2 Hp.out he)
          rw [← he] at hc2
          clear he
          generalize xs[k] = x at hc1 hc2
          go_wp2_with fail
          go_quiet (fail)
          go_wp2_with fail
          go_roundw
          case rel => exact ⟨k + 1, by omega, by go_num, hp2.out, m + nq, rfl⟩
          case measure => simp [intOf]; omega
        · have hne : decide (xs = ys) = false := by
            rw [decide_eq_false_iff_not]
            intro h
            subst h
            exact he rfl
          have Hne := Lib.hid hne
          clear hne
          generalize xs[k] = x at hc1 he
          generalize ys[k] = y at hc2 he
          have he2 : (x == y) = false := by simpa using he
          clear he
          go_wp2_with fail
          go_quiet (fail)
          go_wp2_with fail
          go_ret
          exact ⟨by rw [Hne.out]; rfl, below_drewN (below_drewN (Below.refl _ _) _) _⟩
      · have he : xs = ys := by
          have h3 := Hp.out
          rw [List.take_of_length_le (by omega), List.take_of_length_le (by omega)] at h3
          exact h3
        have He := Lib.hid he
        clear he
        go_wp2_with fail
        go_ret
        exact ⟨by rw [decide_eq_true He.out]; rfl, below_drewN (Below.refl _ _) _⟩
  · have hne : decide (xs = ys) = false := by
      rw [decide_eq_false_iff_not]
      intro h
      subst h
      exact hl rfl
    have Hne := Lib.hid hne
    have hl2 : (((xs.length : Nat) : Int) == ((ys.length : Nat) : Int)) = false := by simp; omega
    clear hne hl
    go_enter Try.func15, Try.ntmps15
    go_wp2_with fail
    all_goals (go_ret; exact ⟨by rw [Hne.out]; rfl, Below.refl _ _⟩)

theorem eqIntS_same (xs : List Int) (A B : Option Addr) (c d : Nat) (w : World) (hx : RdL fI w A xs) (hy : RdL fI w B xs) (hn : xs.length ≤ 2000000) :
    Calls Try.prog 48 #[.slice A xs.length c, .slice B xs.length d] w fun e w' => e = .returned (.bool true) ∧ Below w.heap.size w w' := by
  have := eqIntS_any xs xs A B c d w hx hy hn hn
  rwa [decide_eq_true rfl] at this

theorem equalInts_same (xs : List Int) (A B : Option Addr) (c d : Nat) (w : World) (hx : RdL fI w A xs) (hy : RdL fI w B xs) (hn : xs.length ≤ 2000000) :
    Calls Try.prog 15 #[.slice A xs.length c, .slice B xs.length d] w fun e w' => e = .returned (.bool true) ∧ Below w.heap.size w w' := by
  have := equalInts_any xs xs A B c d w hx hy hn hn
  rwa [decide_eq_true rfl] at this

def MarkInt (w : World) (lo : Nat) (A : Option Addr) (cap n : Nat) (k : Int) (e : Ending) (w' : World) : Prop :=
  e = .returned (.int .i64 (k + n)) ∧ OwnO fI w' lo 3 A cap (marks n k) ∧ w.grownBy w' (blk A)

theorem markIntS_any (xs : List Int) (A : Option Addr) (cap lo : Nat) (k : Int) (w : World) (hr : OwnO fI w lo 3 A cap xs) (hn : xs.length ≤ 2000000) (hk0 : 0 ≤ k) (hk : k ≤ 1000000000) :
    Calls Try.prog 51 #[.slice A xs.length cap, .int .i64 k] w (MarkInt w lo A cap xs.length k) := by
  go_enter Try.func51, Try.ntmps51
  go_wp2_with fail
  go_loopw [1, 5] (fun q i wr => ∃ j : Nat, j ≤ xs.length ∧ i = .int .i64 j ∧ q = .int .i64 (k + j) ∧ OwnO fI wr lo 3 A cap ((marks xs.length k).take j ++ xs.drop j) ∧ w.grownBy wr (blk A)) (fun _ i _ => xs.length - (intOf i).toNat)
  case atStart => exact ⟨0, Nat.zero_le _, rfl, by go_num, by simpa using hr, only_refl _ _⟩
  case round =>
    obtain ⟨j, hj, rfl, rfl, ho, hg⟩ := hrel
    by_cases hlt : j < xs.length
    · have hlen : ((marks xs.length k).take j ++ xs.drop j).length = xs.length := by simp [marks_length]; omega
      obtain ⟨g, og, rfl, hc, hf, hlo, hgl⟩ := ho.at (k := j) (by omega)
      have hs := ho.set (k := j) (x := k + (j : Int)) (by omega)
      have hset : ((marks xs.length k).take j ++ xs.drop j).set j (k + (j : Int)) = (marks xs.length k).take (j + 1) ++ xs.drop (j + 1) := by
        rw [List.take_succ_eq_append_getElem (by rw [marks_length]; exact hlt), marks_get, List.set_append_right _ _ (by simp [marks_length]; omega)]
        have : j - ((marks xs.length k).take j).length = 0 := by simp [marks_length]; omega
        rw [this, List.drop_eq_getElem_cons hlt, List.set_cons_zero, List.append_assoc]
        rfl
      rw [hset] at hs
      have Hs := Lib.hid hs
      have hg2 := Lib.hid (only_trans hg (only_set (w := wr) (g := g) (k := og + j) (.int .i64 (k + (j : Int)))))
      generalize ((marks xs.length k).take j ++ xs.drop j)[j] = x at hc
      clear ho hs hset hlen hr hg

      go_wp2_with fail
      go_roundw
      case rel => exact ⟨j + 1, by omega, by go_num, by go_num, Hs.out, hg2.out⟩
      case measure => simp [intOf]; omega
    · obtain rfl : j = xs.length := by omega
      have ho2 : OwnO fI wr lo 3 A cap (marks xs.length k) := by
        have : (marks xs.length k).take xs.length ++ xs.drop xs.length = marks xs.length k := by
          rw [List.drop_length, List.append_nil, List.take_of_length_le (by rw [marks_length]; exact Nat.le_refl _)]
        rwa [this] at ho
      clear ho hr
      go_wp2_with fail
      go_ret
      exact ⟨rfl, ho2, hg⟩

theorem heldIntS_any (A : Option Addr) (cap n : Nat) (k : Int) (w : World) (hr : RdL fI w A (marks n k)) (hn : n ≤ 2000000) (hk0 : 0 ≤ k) (hk : k ≤ 1000000000) :
    Calls Try.prog 52 #[.slice A n cap, .int .i64 k] w fun e w' => e = .returned (.int .i64 (k + n)) ∧ Below w.heap.size w w' := by
  go_enter Try.func52, Try.ntmps52
  go_wp2_with fail
  go_loopw [1, 5] (fun q i wr => ∃ j : Nat, j ≤ n ∧ i = .int .i64 j ∧ q = .int .i64 (k + j) ∧ ∃ m, wr = w.drewN m) (fun _ i _ => n - (intOf i).toNat)
  case atStart => exact ⟨0, Nat.zero_le _, rfl, by go_num, 0, rfl⟩
  case round =>
    obtain ⟨j, hj, rfl, rfl, m, rfl⟩ := hrel
    by_cases hlt : j < n
    · obtain ⟨b, o, rfl, hc⟩ := hr.at (k := j) (by rw [marks_length]; exact hlt)
      rw [marks_get] at hc
      clear hr

      go_wp2_with fail

      go_roundw
      case rel => exact ⟨j + 1, by omega, by go_num, by go_num, m, rfl⟩
      case measure => simp [intOf]; omega
    · obtain rfl : j = n := by omega
      clear hr
      go_wp2_with fail
      go_ret
      exact ⟨rfl, below_drewN (Below.refl _ _) _⟩

theorem info_Bool : (Try.prog.info? 4).map (fun i => (i.zero, i.size, i.bytes)) = some (some (Value.bool (false)), 1, 1) := by kernel_rfl










theorem allIn_any (zs : List Int) (lo hi : Int) (A : Option Addr) (cap : Nat) (w : World) (hr : RdL fI w A zs) (hn : zs.length ≤ 4611686018427387904) :
    Calls Try.prog 92 #[.slice A zs.length cap, .int .i64 lo, .int .i64 hi] w fun e w' => e = .returned (.bool (allB zs lo hi)) ∧ w = w' := by
  go_enter Try.func92, Try.ntmps92
  go_wp2_with fail
  go_loop [7] (fun i => ∃ k : Nat, k ≤ zs.length ∧ i = .int .i64 k ∧ allB (zs.take k) lo hi = true) (fun i => zs.length - (intOf i).toNat)
  case atStart => exact ⟨0, Nat.zero_le _, rfl, rfl⟩
  case round =>
    obtain ⟨k, hk, rfl, hp⟩ := hrel
    by_cases hlt : k < zs.length
    · obtain ⟨b, o, rfl, hc⟩ := hr.at hlt
      have h1 := Lib.hid (allB_snoc zs lo hi k hlt hp)
      have h2 := Lib.hid (allB_false zs lo hi k hlt)
      clear hr hp
      obtain ⟨t, ht⟩ : ∃ t, inB zs[k] lo hi = t := ⟨_, rfl⟩
      generalize zs[k] = x at hc h1 h2 ht
      cases t
      · have h3 := Lib.hid (h2.out ht)
        go_wp2_with fail
        refine (inRange_any _ _ _ _).mono ?_
        rw [ht]
        clear ht
        rintro e w' ⟨rfl, rfl⟩
        go_wp2_with fail
        go_ret
        exact ⟨by rw [h3.out]; rfl, rfl⟩
      · have h3 := Lib.hid (h1.out.trans ht)
        go_wp2_with fail
        refine (inRange_any _ _ _ _).mono ?_
        rw [ht]
        clear ht
        rintro e w' ⟨rfl, rfl⟩
        go_wp2_with fail
        go_round
        case rel => exact ⟨k + 1, by omega, by go_num, h3.out⟩
        case measure => simp [intOf]; omega
    · obtain rfl : k = zs.length := by omega
      rw [take_all] at hp
      have h3 := Lib.hid hp
      clear hr hp
      go_wp2_with fail
      go_ret
      exact ⟨by rw [h3.out]; rfl, rfl⟩

theorem allWithin_any (zs : List Int) (lo hi : Int) (A : Option Addr) (cap : Nat) (w : World) (hr : RdL fI w A zs) (hn : zs.length ≤ 4611686018427387904) :
    Calls Try.prog 82 #[.slice A zs.length cap, .int .i64 lo, .int .i64 hi] w fun e w' => e = .returned (.bool (allB zs lo hi)) ∧ w = w' := by
  go_enter Try.func82, Try.ntmps82
  go_wp2_with fail
  go_loop [11] (fun i => ∃ k : Nat, k ≤ zs.length ∧ i = .int .i64 k ∧ allB (zs.take k) lo hi = true) (fun i => zs.length - (intOf i).toNat)
  case atStart => exact ⟨0, Nat.zero_le _, rfl, rfl⟩
  case round =>
    obtain ⟨k, hk, rfl, hp⟩ := hrel
    by_cases hlt : k < zs.length
    · obtain ⟨b, o, rfl, hc⟩ := hr.at hlt
      have h1 := Lib.hid (allB_snoc zs lo hi k hlt hp)
      have h2 := Lib.hid (allB_false zs lo hi k hlt)
      clear hr hp
      obtain ⟨t, ht⟩ : ∃ t, inB zs[k] lo hi = t := ⟨_, rfl⟩
      generalize zs[k] = x at hc h1 h2 ht
      cases t
      · have h3 := Lib.hid (h2.out ht)
        go_wp2_with fail
        refine (within_any _ _ _ _).mono ?_
        rw [ht]
        clear ht
        rintro e w' ⟨rfl, rfl⟩
        go_wp2_with fail
        go_ret
        exact ⟨by rw [h3.out]; rfl, rfl⟩
      · have h3 := Lib.hid (h1.out.trans ht)
        go_wp2_with fail
        refine (within_any _ _ _ _).mono ?_
        rw [ht]
        clear ht
        rintro e w' ⟨rfl, rfl⟩
        go_wp2_with fail
        go_round
        case rel => exact ⟨k + 1, by omega, by go_num, h3.out⟩
        case measure => simp [intOf]; omega
    · obtain rfl : k = zs.length := by omega
      rw [take_all] at hp
      have h3 := Lib.hid hp
      clear hr hp
      go_wp2_with fail
      go_ret
      exact ⟨by rw [h3.out]; rfl, rfl⟩
end Go.Proofs.Ytcckipckgnkieaa
