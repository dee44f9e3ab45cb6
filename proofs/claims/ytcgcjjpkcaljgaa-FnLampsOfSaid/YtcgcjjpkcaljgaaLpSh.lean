/-
  strings.Builder: a byte is written; the string is handed back. (The laying of String is what the kit's tool lay-plain.mjs printed for this program.)
-/
import Derived.Shelf.Strings.Builder1
import Derived.Laws.Externs
import Derived.Test.YtcgcjjpkcaljgaaLs
namespace Go.Proofs.Ytcgcjjpkcaljgaa
open Go.Shelf Go.RowKit
set_option linter.unusedVariables false

def sh169_ren : Go.Shelf.Ren := ⟨fun | 169 => 25 | n => n, fun | 70 => 38 | 9 => 9 | 0 => 0 | 72 => 40 | 37 => 22 | 127 => 49 | 3 => 3 | 5 => 5 | n => n, fun | n => n⟩
theorem sh169 : Go.Proofs.Lays.n169 Try.prog sh169_ren := {
  mixed := by kernel_rfl
  f169 := Try.func25.trans (congrArg some (by kernel_rfl))
  t0 := Try.underlying0
  a0 := Try.isAgg0
  z0 := Try.sizeOf0
  v0 := Try.zeroValue0
  t3 := Try.underlying3
  a3 := Try.isAgg3
  z3 := Try.sizeOf3
  v3 := Try.zeroValue3
  t9 := Try.underlying9
  a9 := Try.isAgg9
  z9 := Try.sizeOf9
  v9 := Try.zeroValue9
  t37 := Try.underlying22
  a37 := Try.isAgg22
  z37 := Try.sizeOf22
  v37 := Try.zeroValue22
  t70 := Try.underlying38
  a70 := Try.isAgg38
  z70 := Try.sizeOf38
  v70 := Try.zeroValue38
  t72 := Try.underlying40
  a72 := Try.isAgg40
  z72 := Try.sizeOf40
  v72 := Try.zeroValue40
  t127 := Try.underlying49
  a127 := Try.isAgg49
  z127 := Try.sizeOf49
  v127 := Try.zeroValue49 }
theorem shX : Builder.Extra Try.prog sh169_ren := {
  sizeBuilder := by kernel_rfl
  liesBuilder := by kernel_rfl
  t5 := Try.underlying5
  a5 := Try.isAgg5
  z5 := Try.sizeOf5
  v5 := Try.zeroValue5
  infoByte := by kernel_rfl
  cellsByte := by kernel_rfl
  sizeByte := by kernel_rfl
  neB5 := by decide }
abbrev Bld (B b : Nat) (l : List UInt8) (w : World) : Prop := Lib.IsBuilder 40 5 B b (Lib.byteCells l) w
theorem bldString_any (B b : Nat) (l : List UInt8) (w : World) (h : Bld B b l w) (hBw : B ≤ w.heap.size) :
    Calls Try.prog 25 #[.pointer (some ⟨b, 0, none⟩)] w fun e w' => e = .returned (.string ⟨l.toArray⟩) ∧ Below B w w' := Any.Builder_String_any sh169 shX B b l w h hBw

theorem bldCheck_any (B b : Nat) (bs : List Value) (w : World) (h : Lib.IsBuilder 40 5 B b bs w) :
    Calls Try.prog 27 #[.pointer (some ⟨b, 0, none⟩)] w fun e w' => e = .returned (.tuple #[]) ∧ Lib.BuilderAt 40 5 B b (.pointer (some ⟨b, 0, none⟩)) bs w' ∧ Below B w w' := by
  obtain ⟨j, hj, hjs⟩ := Option.map_eq_some_iff.1 shX.sizeBuilder
  rcases h with h | h
  · have h0 := h.cell0
    have hsh := h.shape
    have hfz := h.frozen0
    have hu := h.used (.pointer (some ⟨b, 0, none⟩))
    have hB := (Below.refl B w).setCell (p := ⟨b, 0, none⟩) h.1 (.pointer (some ⟨b, 0, none⟩))
    have t1 := Lib.run_to_unsafe (P := Try.prog) w ⟨b, 0, none⟩ Try.underlying38 Try.underlying50 hj (by rw [hjs]; decide) hsh (Nat.zero_lt_succ 1)
    have t3 := Lib.run_from_unsafe (P := Try.prog) w ⟨b, 0, none⟩ Try.underlying50 Try.underlying38 hj hsh shX.liesBuilder
    go_enter Try.func27, Try.ntmps27
    go_wp2_with fail
    rw [run_callFunc_extern Try.func28 (by kernel_rfl) (by kernel_rfl) (by kernel_rfl) (e := Extern.AbiNoEscape.same) (by kernel_rfl)]
    rw [Lib.run_noEscape]
    simp only [Result.andThen]
    rw [Oper.upon_value]
    go_wp2_with fail
    go_end0
    exact ⟨rfl, hu, hB⟩
  · have h0 := h.cell0
    go_enter Try.func27, Try.ntmps27
    go_wp2_with fail
    rw [Lib.run_neq_ptr_same w _ Try.underlying38 hj]
    go_wp2_with fail
    go_end0
    exact ⟨rfl, h, Below.refl B _⟩
/-- A byte is written. -/
theorem bldWrite_any (B b : Nat) (l : List UInt8) (x : UInt8) (w : World) (h : Bld B b l w) (hl : l.length ≤ 1000000) (hBw : B ≤ w.heap.size) (v : Int) (hv : v = x.toNat) :
    Calls Try.prog 24 #[.pointer (some ⟨b, 0, none⟩), .int .u8 v] w fun e w' => e = .returned .nilIface ∧ Bld B b (l ++ [x]) w' ∧ Below B w w' := by
  obtain ⟨i0, hi, hz0, hz1, hz2⟩ := info_parts shX.infoByte
  have hll : (Lib.byteCells l).length = l.length := by simp [Lib.byteCells]
  go_enter Try.func24, Try.ntmps24
  go_wp2_with fail
  refine (bldCheck_any B b _ _ h).mono ?_
  rintro e w1 ⟨rfl, h1, hb1⟩
  have hlt := h1.lt
  obtain ⟨hB, u, hbk, hown, hne⟩ := h1
  have c0 : w1.cell? ⟨b, 0, none⟩ = some (.pointer (some ⟨b, 0, none⟩)) := by rw [Lib.cell_of_heap hbk]; rfl
  have c1 : w1.cell? ⟨b, 1, none⟩ = some u := by rw [Lib.cell_of_heap hbk]; rfl
  have hsz := hb1.size
  have hoc : ∃ A c, u = .slice A l.length c := by
    rcases hown.2 with ⟨hv, hn⟩ | ⟨g, c, cur, hv, _⟩
    · exact ⟨none, 0, by rw [hv, ← hll, hn]⟩
    · exact ⟨_, c, by rw [hv, hll]⟩
  obtain ⟨A, c, rfl⟩ := hoc
  have hO : OwnL (fun y : UInt8 => Value.int .u8 (y.toNat : Int)) w1 B 5 A c l := by
    unfold OwnL
    have := hown
    rw [hll] at this
    exact this
  have hlo := hO.ltb
  subst hv
  go_wp2_with (at_builtin; go_must (refine wpList_push rfl (.tmp 11) (.tmp 13) 22 rfl i0 _ 1 Try.underlying22 hi hz0 hz1 hz2 rfl rfl (hO.alloc (.cells #[.int .u8 (x.toNat : Int)] 5)) w1.heap.size x rfl (cell_new _ _ _) rfl (by omega) (by omega) (by simp; omega) ?_); intro A2 c2 w2 ho2 hg2 hb2; have hb3 : w2.heap[b]? = some (.cells #[.pointer (some ⟨b, 0, none⟩), .slice A l.length c] 40 (0, 0)) := (by rw [hg2.block b (by simp; omega) (fun e => hne (by rw [ownBlock_slice]; exact e.symm)), Lib.alloc_old w1 _ b hlt]; exact hbk); have d1 : w2.cell? ⟨b, 1, none⟩ = some (.slice A l.length c) := (by rw [Lib.cell_of_heap hb3]; rfl); have f1 : w2.frozen? ⟨b, 1, none⟩ = false := Lib.frozen_of_heap hb3 1; clear c0 c1)
  go_ret
  refine ⟨rfl, .inr ?_, ?_⟩
  · refine Lib.BuilderAt.put (bs' := Lib.byteCells (l ++ [x])) hB hb3 ?_ shX.neB5
    have := ho2
    unfold OwnL at this
    simpa [Lib.byteCells] using this
  · exact ((hb1.alloc (by omega) _).grown hg2 (by simp; omega) (fun k hk => (hlo k hk).1)).setCell (p := ⟨b, 1, none⟩) hB _
end Go.Proofs.Ytcgcjjpkcaljgaa
