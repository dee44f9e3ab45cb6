/-
  The reader of the generators: newReader, pick, one: what they return is in range, and they turn the reader alone.
-/
import Derived.Test.YtcckipckgnkieaaRows
import Derived.Test.YtcckipckgnkieaaBase
namespace Go.Proofs.Ytcckipckgnkieaa
open Go.RowKit

/-- The bytes of a reader. -/
def Src (w : World) (rb : Nat) (A : Option Addr) (len : Nat) : Prop :=
  len ≤ 2000 ∧ (len = 0 ∨ ∃ ab ao, ∃ bs : Nat → Int, A = some ⟨ab, ao, none⟩ ∧ ab < rb ∧ ∀ i, i < len → w.cell? ⟨ab, ao + i, none⟩ = some (.int .u8 (bs i)) ∧ 0 ≤ bs i ∧ bs i ≤ 255)

/-- A reader at block rb that has been asked at most M times. -/
def Rdr (w : World) (rb : Nat) (M : Nat) : Prop :=
  ∃ A len cap, ∃ p : Int, Blk w rb 74 #[.slice A len cap, .int .i64 p] ∧ 0 ≤ p ∧ p ≤ M ∧ Src w rb A len

theorem xor_nonneg {a b : Int} (ha : 0 ≤ a) (hb : 0 ≤ b) (ha' : a < 9223372036854775808) (hb' : b < 9223372036854775808) : 0 ≤ bits .xor .i64 a b := by
  obtain ⟨a, rfl⟩ := Int.eq_ofNat_of_zero_le ha
  obtain ⟨b, rfl⟩ := Int.eq_ofNat_of_zero_le hb
  have hx : a ^^^ b < 2 ^ 63 := Nat.xor_lt_two_pow (by omega) (by omega)
  show 0 ≤ IntKind.i64.wrap ((BitVec.ofInt 64 (a : Int) ^^^ BitVec.ofInt 64 (b : Int)).toNat : Int)
  have e : ∀ n : Nat, n < 9223372036854775808 → (BitVec.ofInt 64 (n : Int)).toNat = n := fun n hn => by
    rw [BitVec.ofInt_natCast, BitVec.toNat_ofNat]; exact Nat.mod_eq_of_lt (by omega)
  rw [BitVec.toNat_xor, e a (by omega), e b (by omega), IntKind.wrap_i64]
  omega

theorem rdr_step {w : World} {rb M len cap : Nat} {A : Option Addr} {p : Int} (hb : Blk w rb 74 #[.slice A len cap, .int .i64 p]) (hp0 : 0 ≤ p) (hp1 : p ≤ M) (hs : Src w rb A len) :
    Rdr (w.setCell ⟨rb, 1, none⟩ (.int .i64 (p + 1))) rb (M + 1) ∧ w.grownBy (w.setCell ⟨rb, 1, none⟩ (.int .i64 (p + 1))) (some rb) := by
  refine ⟨⟨A, len, cap, p + 1, by simpa using hb.set_ 1 (.int .i64 (p + 1)), by omega, by omega, hs.1, ?_⟩, only_setCell (only_refl _ _) (.inl rfl) _⟩
  rcases hs.2 with h | ⟨ab, ao, bs, hA, hne, hc⟩
  · exact .inl h
  · refine .inr ⟨ab, ao, bs, hA, hne, fun i hi => ⟨?_, (hc i hi).2⟩⟩
    rw [World.cell?_setCell_other w ⟨rb, 1, none⟩ _ _ (fun e => by injection e; omega)]
    exact (hc i hi).1

theorem Rdr.lt {w : World} {rb M : Nat} (h : Rdr w rb M) : rb < w.heap.size := by
  obtain ⟨A, len, cap, p, hb, _⟩ := h
  exact hb.lt
theorem Rdr.mono {w : World} {rb M N : Nat} (h : Rdr w rb M) (hMN : M ≤ N) : Rdr w rb N := by
  obtain ⟨A, len, cap, p, hb, hp0, hp1, hs⟩ := h
  exact ⟨A, len, cap, p, hb, hp0, by omega, hs⟩
/-- The reader hangs on the blocks up to its own alone. -/
theorem Rdr.below {w w' : World} {rb M B : Nat} (h : Rdr w rb M) (hb : Below B w w') (hB : rb < B) : Rdr w' rb M := by
  obtain ⟨A, len, cap, p, hblk, hp0, hp1, hl, hs⟩ := h
  refine ⟨A, len, cap, p, hblk.below hb hB, hp0, hp1, hl, ?_⟩
  rcases hs with h | ⟨ab, ao, bs, hA, hne, hc⟩
  · exact .inl h
  · exact .inr ⟨ab, ao, bs, hA, hne, fun i hi => ⟨(hb.cell (by show ab < B; omega)).trans (hc i hi).1, (hc i hi).2⟩⟩
theorem Rdr.alloc {w : World} {rb M : Nat} (h : Rdr w rb M) (o : Obj) : Rdr (w.alloc o) rb M :=
  h.below (B := w.heap.size) ((Below.refl _ _).alloc (Nat.le_refl _) _) h.lt
theorem Rdr.setCell {w : World} {rb M : Nat} (h : Rdr w rb M) {p : Addr} (hp : rb < p.block) (u : Value) : Rdr (w.setCell p u) rb M :=
  h.below (B := rb + 1) ((Below.refl _ _).setCell hp u) (by omega)

theorem Rdr.grown {w w' : World} {rb M : Nat} {row : Option Nat} (h : Rdr w rb M) (hg : w.grownBy w' row) (hr : ∀ b, row = some b → rb < b) : Rdr w' rb M :=
  h.below (B := rb + 1) ⟨hg.os, hg.tape, hg.output, hg.size, fun k hk => hg.block k (by have := h.lt; omega) (fun e => by have := hr k e.symm; omega)⟩ (by omega)
theorem Rdr.drew {w : World} {rb M : Nat} (h : Rdr w rb M) : Rdr w.drew rb M := h

def PickPost (w : World) (rb M : Nat) (n : Int) (e : Ending) (w' : World) : Prop :=
  ∃ k : Int, e = .returned (.int .i64 k) ∧ 0 ≤ k ∧ (1 ≤ n → k < n) ∧ Rdr w' rb (M + 1) ∧ w.grownBy w' (some rb)

theorem pick_any (w : World) (rb M : Nat) (n : Int) (hr : Rdr w rb M) (hM : M ≤ 1000000000) :
    Calls Try.prog 66 #[.pointer (some ⟨rb, 0, none⟩), .int .i64 n] w (PickPost w rb M n) := by
  obtain ⟨A, len, cap, p, hb, hp0, hp1, hs⟩ := hr
  obtain ⟨hR, hG⟩ := rdr_step hb hp0 hp1 hs
  have h0 := hb.cell 0
  have h1 := hb.cell 1
  have hf := hb.frozen 1
  simp at h0 h1
  clear hb
  by_cases hn : n < 1
  · go_enter Try.func66, Try.ntmps66
    go_wp2
    go_ret
    exact ⟨0, rfl, by omega, by omega, hR, hG⟩
  obtain ⟨hl, hs⟩ := hs
  by_cases hz : len = 0
  · subst hz
    go_enter Try.func66, Try.ntmps66
    go_wp2
    go_ret
    exact ⟨0, rfl, by omega, by omega, hR, hG⟩
  have hl0 : 0 < len := Nat.pos_of_ne_zero hz
  obtain ⟨ab, ao, bs, rfl, hlt0, hc⟩ := hs.resolve_left hz
  have hne : ab ≠ rb := by omega
  have hw1 : ∀ i, i < len → (w.setCell ⟨rb, 1, none⟩ (.int .i64 (p + 1))).cell? ⟨ab, ao + i, none⟩ = some (.int .u8 (bs i)) := fun i hi => by
    rw [World.cell?_setCell_other w ⟨rb, 1, none⟩ _ _ (fun e => by injection e; omega)]
    exact (hc i hi).1
  by_cases hlt : p < len
  · obtain ⟨k, rfl⟩ := Int.eq_ofNat_of_zero_le hp0
    have hk : k < len := by omega
    have hck := hw1 k hk
    have hbd := (hc k hk).2
    have hr0 : 0 ≤ bs k % n := Int.emod_nonneg _ (by omega)
    have hr1 : bs k % n < n := Int.emod_lt_of_pos _ (by omega)
    generalize bs k = x at hck hbd hr0 hr1
    obtain ⟨hx0, hx1⟩ := hbd
    clear hc hw1
    go_enter Try.func66, Try.ntmps66
    go_wp2
    go_ret
    exact ⟨_, rfl, hr0, fun _ => hr1, hR, hG⟩
  · obtain ⟨k, rfl⟩ := Int.eq_ofNat_of_zero_le hp0
    have hm1 := Nat.mod_lt k hl0
    have hm2 := Nat.mod_lt (k * 7 + 3) hl0
    have c1 := hw1 _ hm1
    have c2 := hw1 _ hm2
    obtain ⟨b1, b1'⟩ := (hc _ hm1).2
    obtain ⟨b2, b2'⟩ := (hc _ hm2).2
    have hlz : (len : Int) ≠ 0 := by omega
    have i1 : (0 : Int) ≤ (k : Int) % (len : Int) := Int.emod_nonneg _ hlz
    have i2 : (k : Int) % (len : Int) < (len : Int) := Int.emod_lt_of_pos _ (by omega)
    have i3 : (0 : Int) ≤ ((k : Int) * 7 + 3) % (len : Int) := Int.emod_nonneg _ hlz
    have i4 : ((k : Int) * 7 + 3) % (len : Int) < (len : Int) := Int.emod_lt_of_pos _ (by omega)
    have e1 : ((k : Int) % (len : Int)).toNat = k % len := Int.toNat_natCast (k % len)
    have e2 : (((k : Int) * 7 + 3) % (len : Int)).toNat = (k * 7 + 3) % len := Int.toNat_natCast ((k * 7 + 3) % len)
    have j1 : (0 : Int) ≤ (k : Int) / (len : Int) := Int.ediv_nonneg (by omega) (by omega)
    have j2 : (k : Int) / (len : Int) ≤ (k : Int) := Int.ediv_le_self _ (by omega)
    clear hc hw1 hlz
    go_enter Try.func66, Try.ntmps66
    go_wp2
    go_quiet (fail)
    go_wp2
    go_ret
    refine ⟨_, rfl, ?_, fun _ => ?_, hR, only_drewN hG _⟩
    · apply Int.tmod_nonneg
      apply xor_nonneg <;> omega
    · apply Int.tmod_lt_of_pos
      omega

/-- A slice of bytes that came in. -/
def Bytes (w : World) (A : Option Addr) (len : Nat) : Prop :=
  len = 0 ∨ ∃ ab ao, ∃ bs : Nat → Int, A = some ⟨ab, ao, none⟩ ∧ ∀ i, i < len → w.cell? ⟨ab, ao + i, none⟩ = some (.int .u8 (bs i)) ∧ 0 ≤ bs i ∧ bs i ≤ 255

theorem Bytes.src {w : World} {A : Option Addr} {len m : Nat} (h : Bytes w A len) (hm : m ≤ len) (hm2 : m ≤ 2000) (o : Obj) : Src (w.alloc o) w.heap.size A m := by
  refine ⟨hm2, ?_⟩
  by_cases h0 : m = 0
  · exact .inl h0
  rcases h with h | ⟨ab, ao, bs, hA, hc⟩
  · omega
  have hlt : ab < w.heap.size := World.block_lt_of_cell? w _ (hc 0 (by omega)).1
  refine .inr ⟨ab, ao, bs, hA, by omega, fun i hi => ⟨?_, (hc i (by omega)).2⟩⟩
  rw [World.cell?_alloc_lt w o _ (by exact hlt)]
  exact (hc i (by omega)).1

theorem Bytes.alloc {w : World} {A : Option Addr} {len : Nat} (h : Bytes w A len) (o : Obj) : Bytes (w.alloc o) A len := by
  rcases h with h | ⟨ab, ao, bs, hA, hc⟩
  · exact .inl h
  · refine .inr ⟨ab, ao, bs, hA, fun i hi => ⟨?_, (hc i hi).2⟩⟩
    rw [World.cell?_alloc_lt w o _ (World.block_lt_of_cell? w _ (hc i hi).1)]
    exact (hc i hi).1

def NewPost (w : World) (e : Ending) (w' : World) : Prop :=
  ∃ rb, e = .returned (.pointer (some ⟨rb, 0, none⟩)) ∧ w.heap.size ≤ rb ∧ Rdr w' rb 0 ∧ Below w.heap.size w w'

theorem newReader_any (w : World) (A : Option Addr) (len cap : Nat) (h : Bytes w A len) (hc : len ≤ cap) :
    Calls Try.prog 32 #[.slice A len cap] w (NewPost w) := by
  by_cases hl : 2000 < len
  · have hR : ∀ c, Rdr (w.alloc (.cells #[.slice A 2000 c, .int .i64 0] 74)) w.heap.size 0 := fun c =>
      ⟨A, 2000, c, 0, Blk.new _ _ _, by omega, by omega, h.src (by omega) (by omega) _⟩
    go_enter Try.func32, Try.ntmps32
    go_wp2
    go_ret
    exact ⟨_, rfl, Nat.le_refl _, hR _, (Below.refl _ _).alloc (Nat.le_refl _) _⟩
  · have hR : ∀ c, Rdr (w.alloc (.cells #[.slice A len c, .int .i64 0] 74)) w.heap.size 0 := fun c =>
      ⟨A, len, c, 0, Blk.new _ _ _, by omega, by omega, h.src (by omega) (by omega) _⟩
    go_enter Try.func32, Try.ntmps32
    go_wp2
    go_ret
    exact ⟨_, rfl, Nat.le_refl _, hR _, (Below.refl _ _).alloc (Nat.le_refl _) _⟩

def OnePost (w : World) (rb M : Nat) (xs : List Int) (e : Ending) (w' : World) : Prop :=
  ∃ k : Int, e = .returned (.int .i64 k) ∧ k ∈ xs ∧ Rdr w' rb (M + 1) ∧ w.grownBy w' (some rb)

theorem one_any (w : World) (rb M g n c : Nat) (xs : List Int) (hr : Rdr w rb M) (hM : M ≤ 1000000000) (hg : Blk w g 3 (xs.map (Value.int .i64)).toArray) (hne : g ≠ rb) (hn : xs.length = n) (h1 : 1 ≤ n) (hn2 : n ≤ 1000) :
    Calls Try.prog 35 #[.pointer (some ⟨rb, 0, none⟩), .slice (some ⟨g, 0, none⟩) n c] w (OnePost w rb M xs) := by
  go_enter Try.func35, Try.ntmps35
  go_wp2_with fail
  refine (pick_any w rb M n hr hM).mono ?_
  rintro e w1 ⟨k, rfl, hk0, hk1, hr1, hg1⟩
  have hkn := hk1 (by omega)
  clear hk1
  obtain ⟨k, rfl⟩ := Int.eq_ofNat_of_zero_le hk0
  have hb1 := hg.grown hg1 (by simpa using hne)
  have hcell : w1.cell? ⟨g, k, none⟩ = some (.int .i64 (xs[k]'(by omega))) := by
    rw [hb1.cell]; simp [show k < xs.length by omega]
  have hmem : (xs[k]'(by omega)) ∈ xs := List.getElem_mem _
  generalize xs[k]'(by omega) = x at hcell hmem
  clear hg hb1
  go_wp2_with fail
  go_ret
  exact ⟨x, rfl, hmem, hr1, hg1⟩
end Go.Proofs.Ytcckipckgnkieaa
