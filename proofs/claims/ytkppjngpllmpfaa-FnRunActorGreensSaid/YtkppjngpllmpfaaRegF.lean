/-
  A region that draws its order, by a plan that forks once: two operations may come next, each way goes on by a plan of its own.
-/
import Derived.Test.YtkppjngpllmpfaaRegM
namespace Go.Proofs.Ytkppjngpllmpfaa
open Go.RowKit
set_option linter.unusedVariables false

section
variable {P : Program} {ops : Array Oper} {Q : Exit → Act → World → Prop} {S : World → Prop} {L : List Nat}

def markM : List (Nat × Nat) → Array Bool → Array Bool
  | [], listed => listed
  | (_, i) :: M, listed => markM M (listed.setIfInBounds i true)
def mixB0 (ops : Array Oper) (L : List Nat) : List (Nat × Nat) → Array Bool → Bool
  | [], _ => true
  | (0, i) :: M, listed => (ops[i]?).isSome && ((ops[i]?).bind (·.dst)).isSome && waitB ops L i && Region.free .any ops listed i && (Region.ready .any ops listed).contains i && mixB0 ops L M (listed.setIfInBounds i true)
  | (_ + 1, i) :: M, listed => !L.contains i && (ops[i]?).isSome && Region.ready .any ops listed == [i] && mixB0 ops L M (listed.setIfInBounds i true)

theorem mix_soundK (hsel : Region.noSelect ops = true) (hQ : ∀ c a w d v, Q (.panic c) (a.put (some d) v) w → Q (.panic c) a w) {fuel0 : Nat} {Kc : Act → World → Prop} :
    ∀ (M : List (Nat × Nat)) (listed : Array Bool) (a : Act) (w : World), (∀ a w, S w → Kc a w → wpAnyT P .any ops Q S L fuel0 (markM M listed) a w) → S w → mixB0 ops L M listed = true →
    mixT P ops Q S Kc (mixOps ops M) a w → wpAnyT P .any ops Q S L (fuel0 + M.length) listed a w
  | [], listed, a, w, hend, hS, hB, h => hend a w hS h
  | (0, i) :: M, listed, a, w, hend, hS, hB, h => by
    simp only [mixB0, Bool.and_eq_true] at hB
    obtain ⟨⟨⟨⟨⟨h1, h2⟩, h3⟩, h4⟩, h5⟩, h6⟩ := hB
    obtain ⟨o, ho⟩ := Option.isSome_iff_exists.1 h1
    obtain ⟨d, hd⟩ := Option.isSome_iff_exists.1 h2
    have hd : o.dst = some d := by simpa [ho] using hd
    simp only [mixOps, List.filterMap_cons, ho, Option.map_some, mixT] at h
    split at h
    · rename_i hw
      obtain ⟨v, hv, hn⟩ := h
      refine wpAnyT_first ho (Region.noSelect_spec hsel) (fun c a w => by rw [hd]; exact hQ c a w d v) (waitB_spec h3) (fuel0 + M.length) listed a w (Region.free_spec ho h4) (by simpa using h5) (.inl ⟨hw, fun w hw => hv ⟨w, hw⟩⟩) hS ?_
      exact mix_soundK hsel hQ M _ _ w hend hS h6 hn
    · rename_i hw
      refine wpAnyT_first ho (Region.noSelect_spec hsel) (fun c a w => by rw [hd]; exact hQ c a w d undef) (waitB_spec h3) (fuel0 + M.length) listed a w (Region.free_spec ho h4) (by simpa using h5) (.inr ⟨by simpa using hw, rfl⟩) hS ?_
      exact mix_soundK hsel hQ M _ _ w hend hS h6 h
  | (t + 1, i) :: M, listed, a, w, hend, hS, hB, h => by
    simp only [mixB0, Bool.and_eq_true, beq_iff_eq, Bool.not_eq_true'] at hB
    obtain ⟨⟨⟨h0, h1⟩, h2⟩, h3⟩ := hB
    obtain ⟨o, ho⟩ := Option.isSome_iff_exists.1 h1
    refine ⟨(fun h0 => by rw [h0] at h2; cases h2), fun j hj => ?_⟩
    rw [h2] at hj
    obtain rfl : j = i := by simpa using hj
    simp only [mixOps, List.filterMap_cons, ho, Option.map_some, mixT] at h
    simp only [wpOp, ho]
    split
    · rename_i hw
      rw [if_pos hw] at h
      refine .inl (Oper.wp_mono (fun a' w' h' => ⟨fun _ => h'.1, mix_soundK hsel hQ M _ a' w' hend h'.1 h3 h'.2⟩) h)
    · rename_i hw
      rw [if_neg hw] at h
      exact ⟨fun _ => hS, mix_soundK hsel hQ M _ _ w hend hS h3 h⟩

def planF (ops : Array Oper) (M : List (Nat × Nat)) (i j : Nat) (Mi Mj : List (Nat × Nat)) (L : List Nat) : Bool :=
  Region.noSelect ops && mixB0 ops L M (Array.replicate ops.size false) && Region.ready .any ops (markM M (Array.replicate ops.size false)) == [i, j] && (ops[i]?).isSome && (ops[j]?).isSome && !L.contains i && !L.contains j
    && mixB ops L Mi ((markM M (Array.replicate ops.size false)).setIfInBounds i true) && mixB ops L Mj ((markM M (Array.replicate ops.size false)).setIfInBounds j true) && M.length + 1 + Mi.length + L.length == ops.size && Mi.length == Mj.length

theorem fork_one (hsel : Region.noSelect ops = true) (hQ : ∀ c a w d v, Q (.panic c) (a.put (some d) v) w → Q (.panic c) a w) {i : Nat} {Mi : List (Nat × Nat)} {listed : Array Bool} (hi : (ops[i]?).isSome = true) (hLi : L.contains i = false)
    (hB : mixB ops L Mi (listed.setIfInBounds i true) = true) {a : Act} {w : World} (hS : S w) (h : mixT P ops Q S (tailT P ops Q L) (mixOps ops ((1, i) :: Mi)) a w) :
    wpOp P ops Q i (fun a' w' => (L.contains i = false → S w') ∧ wpAnyT P .any ops Q S L (Mi.length + L.length) (listed.setIfInBounds i true) a' w') a w := by
  obtain ⟨o, ho⟩ := Option.isSome_iff_exists.1 hi
  simp only [mixOps, List.filterMap_cons, ho, Option.map_some, mixT] at h
  simp only [wpOp, ho]
  split
  · rename_i hw
    rw [if_pos hw] at h
    exact .inl (Oper.wp_mono (fun a' w' h' => ⟨fun _ => h'.1, mix_sound hsel hQ Mi _ _ a' w' h'.1 (Nat.le_refl _) hB h'.2⟩) h)
  · rename_i hw
    rw [if_neg hw] at h
    exact ⟨fun _ => hS, mix_sound hsel hQ Mi _ _ _ w hS (Nat.le_refl _) hB h⟩

theorem wp_region_fork {id : Nat} {a : Act} {w : World} {l : List Oper} (S : World → Prop) (M : List (Nat × Nat)) (i j : Nat) (Mi Mj : List (Nat × Nat)) (L : List Nat) (hm : P.follows .mixedOrders = true) (hB : planF l.toArray M i j Mi Mj L = true) (hS : S w.drew)
    (h : Nonempty (Held S) → mixT P l.toArray (NoPanic Q) S (fun a w => mixT P l.toArray (NoPanic Q) S (tailT P l.toArray (NoPanic Q) L) (mixOps l.toArray ((1, i) :: Mi)) a w ∧ mixT P l.toArray (NoPanic Q) S (tailT P l.toArray (NoPanic Q) L) (mixOps l.toArray ((1, j) :: Mj)) a w) (mixOps l.toArray M) a w.drew) : (Code.region id l.toArray true).wp P Q a w := by
  simp only [planF, Bool.and_eq_true, beq_iff_eq, Bool.not_eq_true'] at hB
  obtain ⟨⟨⟨⟨⟨⟨⟨⟨⟨⟨h1, h2⟩, h3⟩, h4⟩, h5⟩, h6⟩, h7⟩, h8⟩, h9⟩, h10⟩, h11⟩ := hB
  refine wp_region_noPanic (wp_region_any hm (wpAny_of_T (S := S) (L := L) _ _ _ _ ?_))
  have hq : ∀ c a w d v, NoPanic Q (.panic c) (a.put (some d) v) w → NoPanic Q (.panic c) a w := fun _ _ _ _ _ h => (h : False).elim
  have key := mix_soundK (fuel0 := Mi.length + L.length + 1) h1 hq M (Array.replicate l.toArray.size false) a w.drew (fun a w hS hK => by
    refine ⟨(fun h0 => by rw [h0] at h3; cases h3), fun k hk => ?_⟩
    rw [h3] at hk
    rcases List.mem_cons.mp hk with rfl | hk
    · exact fork_one h1 hq h4 h6 h8 hS hK.1
    · obtain rfl : k = j := by simpa using hk
      have := fork_one h1 hq h5 h7 h9 hS hK.2
      rwa [← h11] at this) hS h2 (h ⟨⟨_, hS⟩⟩)
  have e : Mi.length + L.length + 1 + M.length = l.toArray.size := by omega
  rwa [e] at key
end
end Go.Proofs.Ytkppjngpllmpfaa
