/-
  A region that draws its order, by a plan: early operations (one value in every world that meets S) and operations in a forced order, in any mixture; last those behind which S need not be shown.
-/
import Derived.Test.YtcckipckgnkieaaRegT
namespace Go.Proofs.Ytcckipckgnkieaa
open Go.RowKit

section
variable {P : Program} {ops : Array Oper} {Q : Exit → Act → World → Prop} {S : World → Prop} {L : List Nat}

/-- 0: early; else in a forced order. -/
def mixT (P : Program) (ops : Array Oper) (Q : Exit → Act → World → Prop) (S : World → Prop) (K : Act → World → Prop) : List (Nat × Oper) → Act → World → Prop
  | [], a, w => K a w
  | (0, o) :: rest, a, w => if Region.wanted o (yielded ops a.tmps) then earlyOp P o a S (fun a' => mixT P ops Q S K rest a' w) else mixT P ops Q S K rest (a.put o.dst undef) w
  | (_ + 1, o) :: rest, a, w => if Region.wanted o (yielded ops a.tmps) then o.wp P a w (fun a' w' => S w' ∧ mixT P ops Q S K rest a' w') Q else mixT P ops Q S K rest (a.put o.dst undef) w
theorem mix_early {K' : Act → World → Prop} {a : Act} {w : World} {o : Oper} {rest : List (Nat × Oper)}
    (h : ∀ K : Act → Prop, (∀ a, mixT P ops Q S K' rest a w → K a) → if Region.wanted o (yielded ops a.tmps) then earlyOp P o a S K else K (a.put o.dst undef)) : mixT P ops Q S K' ((0, o) :: rest) a w :=
  h _ (fun _ h => h)
theorem mix_late {K' : Act → World → Prop} {a : Act} {w : World} {o : Oper} {rest : List (Nat × Oper)} (hg : o.guard = none)
    (h : ∀ K : Act → World → Prop, (∀ a w, S w ∧ mixT P ops Q S K' rest a w → K a w) → o.wp P a w K Q) : mixT P ops Q S K' ((1, o) :: rest) a w := by
  unfold mixT
  rw [if_pos (by simp [Region.wanted, hg])]
  exact h _ (fun _ _ h => h)
theorem mix_lateG {K' : Act → World → Prop} {a : Act} {w : World} {o : Oper} {rest : List (Nat × Oper)} (hw : Region.wanted o (yielded ops a.tmps) = true)
    (h : ∀ K : Act → World → Prop, (∀ a w, S w ∧ mixT P ops Q S K' rest a w → K a w) → o.wp P a w K Q) : mixT P ops Q S K' ((1, o) :: rest) a w := by
  unfold mixT
  rw [if_pos hw]
  exact h _ (fun _ _ h => h)
theorem mix_skip {K' : Act → World → Prop} {a : Act} {w : World} {o : Oper} {rest : List (Nat × Oper)} (hw : Region.wanted o (yielded ops a.tmps) = false)
    (h : mixT P ops Q S K' rest (a.put o.dst undef) w) : mixT P ops Q S K' ((1, o) :: rest) a w := by
  unfold mixT
  rw [if_neg (by rw [hw]; decide)]
  exact h
theorem mix_nil {K' : Act → World → Prop} {a : Act} {w : World} (h : K' a w) : mixT P ops Q S K' [] a w := h

def mixB (ops : Array Oper) (L : List Nat) : List (Nat × Nat) → Array Bool → Bool
  | [], listed => lateB ops L listed
  | (0, i) :: M, listed => (ops[i]?).isSome && ((ops[i]?).bind (·.dst)).isSome && waitB ops L i && Region.free .any ops listed i && (Region.ready .any ops listed).contains i && mixB ops L M (listed.setIfInBounds i true)
  | (_ + 1, i) :: M, listed => !L.contains i && (ops[i]?).isSome && Region.ready .any ops listed == [i] && mixB ops L M (listed.setIfInBounds i true)
def planM (ops : Array Oper) (M : List (Nat × Nat)) (L : List Nat) : Bool := Region.noSelect ops && mixB ops L M (Array.replicate ops.size false) && M.length + L.length == ops.size
def mixOps (ops : Array Oper) (M : List (Nat × Nat)) : List (Nat × Oper) := M.filterMap fun p => (ops[p.2]?).map fun o => (p.1, o)

theorem mix_sound (hsel : Region.noSelect ops = true) (hQ : ∀ c a w d v, Q (.panic c) (a.put (some d) v) w → Q (.panic c) a w) :
    ∀ (M : List (Nat × Nat)) (fuel : Nat) (listed : Array Bool) (a : Act) (w : World), S w → M.length + L.length ≤ fuel → mixB ops L M listed = true →
    mixT P ops Q S (tailT P ops Q L) (mixOps ops M) a w → wpAnyT P .any ops Q S L fuel listed a w
  | [], fuel, listed, a, w, _, hf, hB, h => tail_sound L fuel listed a w (fun i hi => by simpa using hi) (by simpa using hf) hB h
  | (t, i) :: M, 0, _, _, _, _, hf, _, _ => by simp at hf
  | (0, i) :: M, fuel + 1, listed, a, w, hS, hf, hB, h => by
    simp only [mixB, Bool.and_eq_true] at hB
    obtain ⟨⟨⟨⟨⟨h1, h2⟩, h3⟩, h4⟩, h5⟩, h6⟩ := hB
    obtain ⟨o, ho⟩ := Option.isSome_iff_exists.1 h1
    obtain ⟨d, hd⟩ := Option.isSome_iff_exists.1 h2
    have hd : o.dst = some d := by simpa [ho] using hd
    simp only [mixOps, List.filterMap_cons, ho, Option.map_some, mixT] at h
    split at h
    · rename_i hw
      obtain ⟨v, hv, hn⟩ := h
      refine wpAnyT_first ho (Region.noSelect_spec hsel) (fun c a w => by rw [hd]; exact hQ c a w d v) (waitB_spec h3) fuel listed a w (Region.free_spec ho h4) (by simpa using h5) (.inl ⟨hw, fun w hw => hv ⟨w, hw⟩⟩) hS ?_
      exact mix_sound hsel hQ M fuel _ _ w hS (by simp at hf; omega) h6 hn
    · rename_i hw
      refine wpAnyT_first ho (Region.noSelect_spec hsel) (fun c a w => by rw [hd]; exact hQ c a w d undef) (waitB_spec h3) fuel listed a w (Region.free_spec ho h4) (by simpa using h5) (.inr ⟨by simpa using hw, rfl⟩) hS ?_
      exact mix_sound hsel hQ M fuel _ _ w hS (by simp at hf; omega) h6 h
  | (t + 1, i) :: M, fuel + 1, listed, a, w, hS, hf, hB, h => by
    simp only [mixB, Bool.and_eq_true, beq_iff_eq, Bool.not_eq_true'] at hB
    obtain ⟨⟨⟨h0, h1⟩, h2⟩, h3⟩ := hB
    obtain ⟨o, ho⟩ := Option.isSome_iff_exists.1 h1
    refine ⟨(fun h0 => by rw [h0] at h2; cases h2), fun j hj => ?_⟩
    rw [h2] at hj
    obtain rfl : j = i := by simpa using hj
    simp only [mixOps, List.filterMap_cons, ho, Option.map_some, mixT] at h
    simp only [wpOp, ho]
    split
    · rename_i hw
      rw [if_pos hw] at h
      refine .inl (Oper.wp_mono (fun a' w' h' => ⟨fun _ => h'.1, mix_sound hsel hQ M fuel _ a' w' h'.1 (by simp at hf; omega) h3 h'.2⟩) h)
    · rename_i hw
      rw [if_neg hw] at h
      exact ⟨fun _ => hS, mix_sound hsel hQ M fuel _ _ w hS (by simp at hf; omega) h3 h⟩

theorem wp_region_mix {id : Nat} {a : Act} {w : World} {l : List Oper} (S : World → Prop) (M : List (Nat × Nat)) (L : List Nat) (hm : P.follows .mixedOrders = true) (hB : planM l.toArray M L = true) (hS : S w.drew)
    (h : Nonempty (Held S) → mixT P l.toArray (NoPanic Q) S (tailT P l.toArray (NoPanic Q) L) (mixOps l.toArray M) a w.drew) : (Code.region id l.toArray true).wp P Q a w := by
  simp only [planM, Bool.and_eq_true, beq_iff_eq] at hB
  obtain ⟨⟨h1, h2⟩, h3⟩ := hB
  refine wp_region_noPanic (wp_region_any hm (wpAny_of_T (S := S) (L := L) _ _ _ _ ?_))
  exact mix_sound h1 (fun _ _ _ _ _ h => (h : False).elim) M _ _ a w.drew hS (by omega) h2 (h ⟨⟨_, hS⟩⟩)
end
end Go.Proofs.Ytcckipckgnkieaa
