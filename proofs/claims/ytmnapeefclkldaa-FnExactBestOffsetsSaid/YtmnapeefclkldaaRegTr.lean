/-
  A region that draws its order, by a plan that may fork wherever two operations may come next: each way goes on by a plan of its own.
-/
import Derived.Test.YtmnapeefclkldaaRegM
namespace Go.Proofs.Ytmnapeefclkldaa
open Go.RowKit
set_option linter.unusedVariables false

inductive PT where
  | done : PT
  | early : Nat → PT → PT
  | one : Nat → PT → PT
  | two : Nat → PT → Nat → PT → PT
inductive OT where
  | done : OT
  | early : Oper → OT → OT
  | one : Oper → OT → OT
  | two : Oper → OT → Oper → OT → OT
def PT.ops (ops : Array Oper) : PT → OT
  | .done => .done
  | .early i t => match ops[i]? with
    | some o => .early o (t.ops ops)
    | none => .done
  | .one i t => match ops[i]? with
    | some o => .one o (t.ops ops)
    | none => .done
  | .two i t j u => match ops[i]? with
    | some o => match ops[j]? with
      | some p => .two o (t.ops ops) p (u.ops ops)
      | none => .done
    | none => .done
def PT.len : PT → Nat
  | .done => 0
  | .early _ t => t.len + 1
  | .one _ t => t.len + 1
  | .two _ t _ u => max t.len u.len + 1

section
variable {P : Program} {ops : Array Oper} {Q : Exit → Act → World → Prop} {S : World → Prop}

def treeB (ops : Array Oper) : PT → Array Bool → Bool
  | .done, listed => (Region.ready .any ops listed).isEmpty
  | .early i t, listed => (ops[i]?).isSome && ((ops[i]?).bind (·.dst)).isSome && Region.free .any ops listed i && (Region.ready .any ops listed).contains i && treeB ops t (listed.setIfInBounds i true)
  | .one i t, listed => (ops[i]?).isSome && Region.ready .any ops listed == [i] && treeB ops t (listed.setIfInBounds i true)
  | .two i t j u, listed => (ops[i]?).isSome && (ops[j]?).isSome && Region.ready .any ops listed == [i, j] && treeB ops t (listed.setIfInBounds i true) && treeB ops u (listed.setIfInBounds j true)
def planTr (ops : Array Oper) (t : PT) : Bool := Region.noSelect ops && treeB ops t (Array.replicate ops.size false) && decide (t.len ≤ ops.size)

def treeW (P : Program) (ops : Array Oper) (Q : Exit → Act → World → Prop) (S : World → Prop) : OT → Act → World → Prop
  | .done, a, w => Q .normal a w
  | .early o t, a, w => if Region.wanted o (yielded ops a.tmps) then earlyOp P o a S (fun a' => treeW P ops Q S t a' w) else treeW P ops Q S t (a.put o.dst undef) w
  | .one o t, a, w => if Region.wanted o (yielded ops a.tmps) then o.wp P a w (fun a' w' => S w' ∧ treeW P ops Q S t a' w') Q else treeW P ops Q S t (a.put o.dst undef) w
  | .two o t p u, a, w => (if Region.wanted o (yielded ops a.tmps) then o.wp P a w (fun a' w' => S w' ∧ treeW P ops Q S t a' w') Q else treeW P ops Q S t (a.put o.dst undef) w) ∧
      (if Region.wanted p (yielded ops a.tmps) then p.wp P a w (fun a' w' => S w' ∧ treeW P ops Q S u a' w') Q else treeW P ops Q S u (a.put p.dst undef) w)

theorem tr_early {a : Act} {w : World} {o : Oper} {t : OT}
    (h : ∀ K : Act → Prop, (∀ a, treeW P ops Q S t a w → K a) → if Region.wanted o (yielded ops a.tmps) then earlyOp P o a S K else K (a.put o.dst undef)) : treeW P ops Q S (.early o t) a w :=
  h _ (fun _ h => h)
theorem tr_one {a : Act} {w : World} {o : Oper} {t : OT} (hg : o.guard = none)
    (h : ∀ K : Act → World → Prop, (∀ a w, S w ∧ treeW P ops Q S t a w → K a w) → o.wp P a w K Q) : treeW P ops Q S (.one o t) a w := by
  unfold treeW
  rw [if_pos (by simp [Region.wanted, hg])]
  exact h _ (fun _ _ h => h)
theorem tr_oneG {a : Act} {w : World} {o : Oper} {t : OT} (hw : Region.wanted o (yielded ops a.tmps) = true)
    (h : ∀ K : Act → World → Prop, (∀ a w, S w ∧ treeW P ops Q S t a w → K a w) → o.wp P a w K Q) : treeW P ops Q S (.one o t) a w := by
  unfold treeW
  rw [if_pos hw]
  exact h _ (fun _ _ h => h)
theorem tr_skip {a : Act} {w : World} {o : Oper} {t : OT} (hw : Region.wanted o (yielded ops a.tmps) = false)
    (h : treeW P ops Q S t (a.put o.dst undef) w) : treeW P ops Q S (.one o t) a w := by
  unfold treeW
  rw [if_neg (by rw [hw]; decide)]
  exact h
theorem tr_two {a : Act} {w : World} {o p : Oper} {t u : OT} (h1 : treeW P ops Q S (.one o t) a w) (h2 : treeW P ops Q S (.one p u) a w) : treeW P ops Q S (.two o t p u) a w := ⟨h1, h2⟩
theorem tr_done {a : Act} {w : World} (h : Q .normal a w) : treeW P ops Q S .done a w := h

theorem tree_step {i fuel : Nat} {listed : Array Bool} {a : Act} {w : World} {o : Oper} {t : OT} (ho : ops[i]? = some o) (hS : S w)
    (ih : ∀ a' w', S w' → treeW P ops Q S t a' w' → wpAnyT P .any ops Q S [] fuel (listed.setIfInBounds i true) a' w')
    (h : if Region.wanted o (yielded ops a.tmps) then o.wp P a w (fun a' w' => S w' ∧ treeW P ops Q S t a' w') Q else treeW P ops Q S t (a.put o.dst undef) w) :
    wpOp P ops Q i (fun a' w' => (([] : List Nat).contains i = false → S w') ∧ wpAnyT P .any ops Q S [] fuel (listed.setIfInBounds i true) a' w') a w := by
  simp only [wpOp, ho]
  split
  · rename_i hw
    rw [if_pos hw] at h
    exact .inl (Oper.wp_mono (fun a' w' h' => ⟨fun _ => h'.1, ih a' w' h'.1 h'.2⟩) h)
  · rename_i hw
    rw [if_neg hw] at h
    exact ⟨fun _ => hS, ih _ w hS h⟩

theorem tree_sound (hsel : Region.noSelect ops = true) (hQ : ∀ c a w d v, Q (.panic c) (a.put (some d) v) w → Q (.panic c) a w) :
    ∀ (t : PT) (fuel : Nat) (listed : Array Bool) (a : Act) (w : World), S w → t.len ≤ fuel → treeB ops t listed = true → treeW P ops Q S (t.ops ops) a w → wpAnyT P .any ops Q S [] fuel listed a w
  | .done, fuel, listed, a, w, _, _, hB, h => wpAnyT_done (by simpa [treeB] using hB) h fuel
  | .early i t, 0, _, _, _, _, hf, _, _ => by simp [PT.len] at hf
  | .one i t, 0, _, _, _, _, hf, _, _ => by simp [PT.len] at hf
  | .two i t j u, 0, _, _, _, _, hf, _, _ => by simp [PT.len] at hf
  | .early i t, fuel + 1, listed, a, w, hS, hf, hB, h => by
    simp only [treeB, Bool.and_eq_true] at hB
    obtain ⟨⟨⟨⟨h1, h2⟩, h4⟩, h5⟩, h6⟩ := hB
    obtain ⟨o, ho⟩ := Option.isSome_iff_exists.1 h1
    obtain ⟨d, hd⟩ := Option.isSome_iff_exists.1 h2
    have hd : o.dst = some d := by simpa [ho] using hd
    simp only [PT.ops, ho, treeW] at h
    simp only [PT.len] at hf
    split at h
    · rename_i hw
      obtain ⟨v, hv, hn⟩ := h
      refine wpAnyT_first ho (Region.noSelect_spec hsel) (fun c a w => by rw [hd]; exact hQ c a w d v) (fun j o' hj hc => by simp at hc) fuel listed a w (Region.free_spec ho h4) (by simpa using h5) (.inl ⟨hw, fun w hw => hv ⟨w, hw⟩⟩) hS ?_
      exact tree_sound hsel hQ t fuel _ _ w hS (by omega) h6 hn
    · rename_i hw
      refine wpAnyT_first ho (Region.noSelect_spec hsel) (fun c a w => by rw [hd]; exact hQ c a w d undef) (fun j o' hj hc => by simp at hc) fuel listed a w (Region.free_spec ho h4) (by simpa using h5) (.inr ⟨by simpa using hw, rfl⟩) hS ?_
      exact tree_sound hsel hQ t fuel _ _ w hS (by omega) h6 h
  | .one i t, fuel + 1, listed, a, w, hS, hf, hB, h => by
    simp only [treeB, Bool.and_eq_true, beq_iff_eq] at hB
    obtain ⟨⟨h1, h2⟩, h3⟩ := hB
    obtain ⟨o, ho⟩ := Option.isSome_iff_exists.1 h1
    simp only [PT.ops, ho, treeW] at h
    simp only [PT.len] at hf
    refine ⟨(fun h0 => by rw [h0] at h2; cases h2), fun j hj => ?_⟩
    rw [h2] at hj
    obtain rfl : j = i := by simpa using hj
    exact tree_step ho hS (fun a' w' hS' h' => tree_sound hsel hQ t fuel _ a' w' hS' (by omega) h3 h') h
  | .two i t j u, fuel + 1, listed, a, w, hS, hf, hB, h => by
    simp only [treeB, Bool.and_eq_true, beq_iff_eq] at hB
    obtain ⟨⟨⟨⟨h1, h1'⟩, h2⟩, h3⟩, h4⟩ := hB
    obtain ⟨o, ho⟩ := Option.isSome_iff_exists.1 h1
    obtain ⟨p, hp⟩ := Option.isSome_iff_exists.1 h1'
    simp only [PT.ops, ho, hp, treeW] at h
    simp only [PT.len] at hf
    refine ⟨(fun h0 => by rw [h0] at h2; cases h2), fun k hk => ?_⟩
    rw [h2] at hk
    rcases List.mem_cons.mp hk with rfl | hk
    · exact tree_step ho hS (fun a' w' hS' h' => tree_sound hsel hQ t fuel _ a' w' hS' (by omega) h3 h') h.1
    · obtain rfl : k = j := by simpa using hk
      exact tree_step hp hS (fun a' w' hS' h' => tree_sound hsel hQ u fuel _ a' w' hS' (by omega) h4 h') h.2

theorem wp_region_tree {id : Nat} {a : Act} {w : World} {l : List Oper} (S : World → Prop) (t : PT) (hm : P.follows .mixedOrders = true) (hB : planTr l.toArray t = true) (hS : S w.drew)
    (h : Nonempty (Held S) → treeW P l.toArray (NoPanic Q) S (t.ops l.toArray) a w.drew) : (Code.region id l.toArray true).wp P Q a w := by
  simp only [planTr, Bool.and_eq_true, decide_eq_true_eq] at hB
  obtain ⟨⟨h1, h2⟩, h3⟩ := hB
  refine wp_region_noPanic (wp_region_any hm (wpAny_of_T (S := S) (L := []) _ _ _ _ ?_))
  exact tree_sound h1 (fun _ _ _ _ _ h => (h : False).elim) t _ _ a w.drew hS h3 h2 (h ⟨⟨_, hS⟩⟩)
end
end Go.Proofs.Ytmnapeefclkldaa
