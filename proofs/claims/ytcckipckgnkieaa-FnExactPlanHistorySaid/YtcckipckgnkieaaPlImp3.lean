/-
  Plans of the program: their phases; valid plans.
-/
import Derived.Test.YtcckipckgnkieaaPlImp2
namespace Go.Proofs.Ytcckipckgnkieaa
open Go.RowKit
set_option linter.unusedVariables false

def phsN (p : Pl) (k : Nat) : List (List Int) := mapN k fun i => ph p i
theorem phsN_length (p : Pl) (k : Nat) : (phsN p k).length = k := mapN_length _ _
theorem phsN_succ (p : Pl) (k : Nat) : phsN p (k + 1) = phsN p k ++ [ph p k] := mapN_succ _ _
theorem info_St2 : (Try.prog.info? 79).map (fun i => (i.zero, i.size, i.bytes)) = some (some (Value.agg #[.slice none 0 0, .int .i64 0]), 2, 32) := by kernel_rfl

/-- The headers of the phases. -/
def HdP (w : World) (p : Pl) (ps : List (Option Addr × Nat × Nat)) : Prop := ∀ (k : Nat) (q : Option Addr × Nat × Nat), ps[k]? = some q → q.2.1 = (ph p k).length ∧ RdL fI w q.1 (ph p k) ∧ (ph p k).length ≤ q.2.2
theorem HdP.below {w w' : World} {p : Pl} {ps : List (Option Addr × Nat × Nat)} (h : HdP w p ps) (hb : Below w.heap.size w w') : HdP w' p ps := fun k q hq => by
  obtain ⟨h1, h2, h3⟩ := h k q hq
  exact ⟨h1, h2.below hb, h3⟩

set_option maxRecDepth 100000 in
set_option maxHeartbeats 1600000 in
theorem phases_any (p : Pl) (T S : Option Addr) (c d : Nat) (w : World) (hr : RdP w T S p) (hs : p.sg.length ≤ 1000) :
    Calls Try.prog 70 #[plV p T c S d] w fun e w' => (∃ C c', e = .returned (.slice C (phsN p p.sg.length).length c') ∧ RdC w' C (phsN p p.sg.length)) ∧ Below w.heap.size w w' := by
  obtain ⟨i0, hi0, hz0, hz1, hz2⟩ := info_parts info_S1I
  obtain ⟨hB, hb0, hb1, hlt⟩ := boxP_at w p T c S d
  have Hr := Lib.hid hr
  have hzW := hB.size
  clear hr
  go_enter Try.func70, Try.ntmps70
  go_wp2_with fail
  generalize w.alloc (.cells (plC p T c S d) 26) = W at *
  have hn0 : OwnO fS W W.heap.size 32 none 0 [] := OwnO.nil _ _ _ _
  go_loopw [3, 9] (fun v3 vi wr => ∃ k : Nat, k ≤ p.sg.length ∧ vi = .int .i64 k ∧ (∃ C c' ps, v3 = .slice C (ps : List (Option Addr × Nat × Nat)).length c' ∧ ps.length = k ∧ OwnO fS wr W.heap.size 32 C c' ps ∧ HdP w p ps) ∧ Below W.heap.size W wr) (fun _ vi _ => p.sg.length - (intOf vi).toNat)
  case atStart => exact ⟨0, Nat.zero_le _, rfl, ⟨none, 0, [], rfl, rfl, hn0, fun k q h => by simp at h⟩, Below.refl _ _⟩
  case round =>
    clear hn0
    obtain ⟨k, hk, rfl, ⟨C, c', ps, rfl, hpl, hO, hH⟩, hW⟩ := hrel
    have Hpl := Lib.hid hpl
    have HH := Lib.hid hH
    have hp8 : ps.length ≤ 1000 := by omega
    have hzr := hW.size
    have hOl := hO.lt
    clear hpl hH
    by_cases hltk : k < p.sg.length
    · obtain ⟨b, o, A, c2, rfl, e1, e2, e3, e4⟩ := Hr.out.s k hltk
      have Hsucc := Lib.hid (show HdP w p (ps ++ [(A, (ph p k).length, c2)]) from fun i q hq => by
        by_cases e : i < ps.length
        · rw [List.getElem?_append_left e] at hq; exact HH.out i q hq
        · rw [List.getElem?_append_right (by omega)] at hq
          by_cases e5 : i = ps.length
          · subst e5
            rw [Nat.sub_self] at hq
            simp at hq
            subst hq
            rw [Hpl.out]
            exact ⟨rfl, e3, e4⟩
          · obtain ⟨j, hj⟩ : ∃ j, i - ps.length = j + 1 := ⟨i - ps.length - 1, by omega⟩
            rw [hj] at hq
            simp at hq)
      have q1 := ((hB.trans (hW.mono hzW)).cell (World.block_lt_of_cell? w _ e1)).trans e1
      have q2 := ((hB.trans (hW.mono hzW)).cell (World.block_lt_of_cell? w _ e2)).trans e2
      generalize (ph p k).length = m at *
      generalize gr p k = g at *
      have bS := Blk.new wr 79 #[.slice A m c2, .int .i64 g]
      have s0 : (wr.alloc (.cells #[.slice A m c2, .int .i64 g] 79)).cell? ⟨wr.heap.size, 0, none⟩ = some (.slice A m c2) := bS.cell 0
      have W1 := hW.alloc hzr (.cells #[.slice A m c2, .int .i64 g] 79)
      have hs1 : (wr.alloc (.cells #[.slice A m c2, .int .i64 g] 79)).heap.size = wr.heap.size + 1 := by simp
      have hc5 : ((wr.alloc (.cells #[.slice A m c2, .int .i64 g] 79)).alloc (.cells #[.slice A m c2] 32)).cell? ⟨wr.heap.size + 1, 0, none⟩ = some (.slice A m c2) := by
        have := cell_new (wr.alloc (.cells #[.slice A m c2, .int .i64 g] 79)) (.slice A m c2) 32
        rwa [hs1] at this
      clear e1 e2 e3 e4 bS
      go_wp2_with (at_builtin; go_must (refine wpList_pushO rfl (.tmp 13) (.tmp 16) 23 rfl i0 _ 24 Try.underlying23 hi0 hz0 hz1 hz2 rfl rfl ((hO.alloc (.cells #[.slice A m c2, .int .i64 g] 79)).alloc (.cells #[.slice A m c2] 32)) (wr.heap.size + 1) (A, m, c2) rfl hc5 rfl (by omega) (by omega) (by simp; omega) ?_); intro D3 d3 w6 hO6 hg6 hb6)
      have W6 := below_push (by rw [hs1]; omega) W1 (fun b hb => ⟨(hOl b hb).1, by rw [hs1]; have := (hOl b hb).2; omega⟩) hg6
      go_roundw
      case rel => exact ⟨k + 1, by omega, by go_num, ⟨D3, d3, ps ++ [(A, m, c2)], by simp, by simp [Hpl.out], hO6, Hsucc.out⟩, W6⟩
      case measure => simp [intOf]; omega
    · obtain rfl : k = p.sg.length := by omega
      have V := hB.trans (hW.mono hzW)
      have hrc : RdC wr C (phsN p p.sg.length) := fun k hk => by
        rw [phsN_length] at hk
        have hk' : k < ps.length := by rw [Hpl.out]; exact hk
        obtain ⟨g, o, hC, hc, -⟩ := hO.at hk'
        obtain ⟨h1, h2, h3⟩ := HH.out k ps[k] (List.getElem?_eq_getElem hk')
        have hg : gm (phsN p p.sg.length) k = ph p k := gm_mapN hk
        refine ⟨g, o, ps[k].1, ps[k].2.2, hC, ?_, by rw [hg]; exact h2.below V, by rw [hg]; exact h3⟩
        rw [hc, hg, ← h1]
        rfl
      have Hrc := Lib.hid hrc
      clear hrc
      go_wp2_with fail
      go_ret
      exact ⟨⟨C, c', by rw [phsN_length, Hpl.out]; rfl, Hrc.out⟩, V⟩
end Go.Proofs.Ytcckipckgnkieaa
