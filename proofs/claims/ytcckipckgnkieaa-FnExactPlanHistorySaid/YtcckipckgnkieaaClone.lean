/-
  slices.Clone of a slice of ints.
-/
import Derived.Test.YtcckipckgnkieaaLs
namespace Go.Proofs.Ytcckipckgnkieaa
open Go.RowKit
set_option linter.unusedVariables false

theorem cloneI_any (xs : List Int) (A : Option Addr) (cap : Nat) (w : World) (hr : RdL fI w A xs) (hn : xs.length ≤ 2000000) :
    Calls Try.prog 43 #[.slice A xs.length cap] w (NewS fI 3 w xs) := by
  obtain ⟨i0, hi0, hz0, hz1, hz2⟩ := info_parts info_Int
  have q22 : ∀ (w : World) (a : Option Addr) (n c n' c' : Nat), (binOp .eql 32 (.slice a n c) (.slice none n' c')).run Try.prog w = .ok (.bool a.isNone) w := fun w a n c n' c' => Lib.run_eql_slice_nil w _ _ a n c n' c' Try.underlying32
  cases A with
  | none =>
    obtain rfl : xs = [] := by
      rcases hr with h | ⟨b, o, h, _⟩
      · exact h
      · cases h
    simp only [List.length_nil]
    go_enter Try.func43, Try.ntmps43
    go_wp2_with fail
    go_ret
    exact ⟨none, 0, rfl, OwnO.nil _ _ _ _, Below.refl _ _⟩
  | some ad =>
    have h0 := OwnL.of_cap (lo := w.heap.size) fI (Blk.new w 3 #[]) (Nat.le_refl _) rfl (by simp [maxLen])
    go_enter Try.func43, Try.ntmps43
    go_wp2_with (at_builtin; refine wpList_appendL rfl (.tmp 5) (.tmp 6) 32 rfl i0 _ 8 Try.underlying32 hi0 hz0 hz1 hz2 rfl rfl h0 (some ad) xs cap rfl (hr.alloc _) (fun _ => rfl) (by simp; omega) (by omega) (by simp) ?_; intro A' c' w' ho hg hb)
    go_ret
    exact ⟨A', c', rfl, (by simpa using ho : OwnL fI w' w.heap.size 3 A' c' xs).o, ((Below.refl _ _).alloc (Nat.le_refl _) _).grown hg (by simp) (fun k e => by simp at e; omega)⟩
end Go.Proofs.Ytcckipckgnkieaa
