/-
  What the statements over histories share.
-/
import Derived.Test.YtcckipckgnkieaaPlHistD
namespace Go.Proofs.Ytcckipckgnkieaa
open Go.RowKit
set_option linter.unusedVariables false

theorem RdSS.take {α : Type} {f : α → Value} {w : World} {C : Option Addr} {css : List (List α)} (h : RdSS f w C css) (n : Nat) : RdSS f w C (css.take n) := by
  obtain ⟨ps, h1, h2, h3⟩ := h
  refine ⟨ps.take n, h1.take n, by simp [h2], fun k hk hk' => ?_⟩
  simp only [List.length_take] at hk hk'
  rw [List.getElem_take, List.getElem_take]
  exact h3 k (by omega) (by omega)
theorem sm_take {h : List (List Int)} {n : Nat} {b : Nat} (hl : ∀ k, k < h.length → (gm h k).length ≤ b) : ∀ k, k < (h.take n).length → (gm (h.take n) k).length ≤ b := fun k hk => by
  simp only [List.length_take] at hk
  rw [gm_take (by omega)]
  exact hl k (by omega)
set_option maxHeartbeats 800000 in
theorem equalLists_same (css : List (List Int)) (C D : Option Addr) (c d : Nat) (w : World) (hx : RdSS fI w C css) (hy : RdSS fI w D css) (hn : css.length ≤ 2000000) (hl : ∀ k, k < css.length → (gm css k).length ≤ 2000000) :
    Calls Try.prog 13 #[.slice C css.length c, .slice D css.length d] w fun e w' => e = .returned (.bool true) ∧ Below w.heap.size w w' := by
  go_enter Try.func13, Try.ntmps13
  go_wp2_with fail
  go_loopw [5] (fun vi wr => ∃ k : Nat, k ≤ css.length ∧ vi = .int .i64 k ∧ Below w.heap.size w wr) (fun vi _ => css.length - (intOf vi).toNat)
  case atStart => exact ⟨0, Nat.zero_le _, rfl, Below.refl _ _⟩
  case round =>
    obtain ⟨k, hk, rfl, hB⟩ := hrel
    by_cases hlt : k < css.length
    · obtain ⟨b, o, A, c1, rfl, hcw, hrd⟩ := rowAt hx hlt
      obtain ⟨b2, o2, A2, c2, rfl, hcw2, hrd2⟩ := rowAt hy hlt
      have k0 := Grow.cell hcw
      have k1 := Grow.cell hcw2
      have hct : ∀ y : Grow w, Calls Try.prog 15 #[.slice A (gm css k).length c1, .slice A2 (gm css k).length c2] y.x fun e w' => e = .returned (.bool true) ∧ Below y.x.heap.size y.x w' := fun y => by
        have := equalInts_any (gm css k) (gm css k) A A2 c1 c2 y.x (hrd.below y.h) (hrd2.below y.h) (hl k hlt) (hl k hlt)
        rwa [decide_eq_true rfl] at this
      have hk1 : (k : Int) < (css.length : Int) := by omega
      clear hcw hcw2 hrd hrd2
      go_wp2_with fail
      refine wp_region_grow w (by kernel_rfl) (by kernel_rfl) hB ?_
      repeat (go_big_quiet_step ((go_at_call 15; exact grow_of (hct _))))
      refine wpQuiet_nil ?_
      rintro _ ⟨z, rfl⟩
      go_wp2_with fail
      go_roundw
      case rel => first | exact ⟨k + 1, by omega, by go_num, z.h⟩ | ((repeat apply Exists.intro); exact ⟨⟨k + 1, by omega, by go_num, z.h⟩, rfl⟩)
      case measure => simp [intOf]; omega
    · obtain rfl : k = css.length := by omega
      go_wp2_with fail
      go_ret
      exact ⟨rfl, hB⟩
end Go.Proofs.Ytcckipckgnkieaa
