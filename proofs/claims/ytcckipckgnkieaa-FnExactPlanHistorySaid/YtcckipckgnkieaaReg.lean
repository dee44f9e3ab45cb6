/-
  A region that draws its order: some operations are taken early (each yields one value in every world that meets S), the others come in a forced order, and S is shown anew behind each of them.
-/
import Derived.Test.YtcckipckgnkieaaBase
import Derived.OrdersHeld
import Derived.Deep.RegionHeld3
namespace Go.Proofs.Ytcckipckgnkieaa
open Go.RowKit

structure Held (S : World → Prop) where
  x : World
  h : S x

section
variable {P : Program} {ops : Array Oper} {S : World → Prop}

/-- One value in every world that meets S. -/
def earlyOp (P : Program) (o : Oper) (a : Act) (S : World → Prop) (next : Act → Prop) : Prop :=
  ∃ v, (∀ y : Held S, (execOp a.eval o).run P y.x = .ok (.value v) y.x) ∧ next (a.put o.dst v)

attribute [go_sem] earlyOp

def wpEarly (P : Program) (ops : Array Oper) (S : World → Prop) (Q : Act → Prop) : List Oper → Act → Prop
  | [], a => Q a
  | o :: rest, a => if Region.wanted o (yielded ops a.tmps) then earlyOp P o a S (wpEarly P ops S Q rest) else wpEarly P ops S Q rest (a.put o.dst undef)

theorem wpEarly_step {Q : Act → Prop} {a : Act} {o : Oper} {rest : List Oper}
    (h : ∀ K : Act → Prop, (∀ a, wpEarly P ops S Q rest a → K a) → if Region.wanted o (yielded ops a.tmps) then earlyOp P o a S K else K (a.put o.dst undef)) : wpEarly P ops S Q (o :: rest) a :=
  h _ (fun _ h => h)
theorem wpEarly_nil {Q : Act → Prop} {a : Act} (h : Q a) : wpEarly P ops S Q [] a := h

def wpLate (P : Program) (ops : Array Oper) (Q : Exit → Act → World → Prop) (S : World → Prop) : List Oper → Act → World → Prop
  | [], a, w => Q .normal a w
  | o :: rest, a, w => if Region.wanted o (yielded ops a.tmps) then o.wp P a w (fun a' w' => S w' ∧ wpLate P ops Q S rest a' w') Q else wpLate P ops Q S rest (a.put o.dst undef) w

theorem wpLate_step {Q : Exit → Act → World → Prop} {a : Act} {w : World} {o : Oper} {rest : List Oper} (hg : o.guard = none)
    (h : ∀ K : Act → World → Prop, (∀ a w, S w ∧ wpLate P ops Q S rest a w → K a w) → o.wp P a w K Q) : wpLate P ops Q S (o :: rest) a w := by
  unfold wpLate
  rw [if_pos (by simp [Region.wanted, hg])]
  exact h _ (fun _ _ h => h)
theorem wpLate_nil {Q : Exit → Act → World → Prop} {a : Act} {w : World} (h : Q .normal a w) : wpLate P ops Q S [] a w := h

def lateB (ops : Array Oper) : List Nat → Array Bool → Bool
  | [], listed => (Region.ready .any ops listed).isEmpty
  | i :: R, listed => (ops[i]?).isSome && Region.ready .any ops listed == [i] && lateB ops R (listed.setIfInBounds i true)
def earlyB (ops : Array Oper) (R : List Nat) : List Nat → Array Bool → Bool
  | [], listed => lateB ops R listed
  | i :: E, listed => (ops[i]?).isSome && ((ops[i]?).bind (·.dst)).isSome && Region.free .any ops listed i && (Region.ready .any ops listed).contains i && earlyB ops R E (listed.setIfInBounds i true)
def planB (ops : Array Oper) (E R : List Nat) : Bool := Region.noSelect ops && earlyB ops R E (Array.replicate ops.size false) && E.length + R.length == ops.size

theorem late_sound {Q : Exit → Act → World → Prop} : ∀ (R : List Nat) (fuel : Nat) (listed : Array Bool) (a : Act) (w : World), S w → R.length ≤ fuel → lateB ops R listed = true →
    wpLate P ops Q S (R.filterMap (ops[·]?)) a w → wpAnyH P .any ops Q S fuel listed a w
  | [], fuel, listed, a, w, _, _, hB, h => wpAnyH_done (by simpa [lateB] using hB) (by simpa [wpLate] using h) fuel
  | i :: R, 0, _, _, _, _, hf, _, _ => by simp at hf
  | i :: R, fuel + 1, listed, a, w, hS, hf, hB, h => by
    simp only [lateB, Bool.and_eq_true, beq_iff_eq] at hB
    obtain ⟨⟨h1, h2⟩, h3⟩ := hB
    obtain ⟨o, ho⟩ := Option.isSome_iff_exists.1 h1
    refine wpAnyH_all h2 (by simp) ?_
    intro j hj
    obtain rfl : j = i := by simpa using hj
    simp only [List.filterMap_cons, ho, wpLate] at h
    simp only [wpOp, ho]
    split
    · rename_i hw
      rw [if_pos hw] at h
      refine .inl (Oper.wp_mono (fun a' w' h' => ⟨h'.1, late_sound R fuel _ a' w' h'.1 (by simpa using hf) h3 h'.2⟩) h)
    · rename_i hw
      rw [if_neg hw] at h
      exact ⟨hS, late_sound R fuel _ _ w hS (by simpa using hf) h3 h⟩

theorem early_sound {Q : Exit → Act → World → Prop} (hsel : Region.noSelect ops = true) (hQ : ∀ c a w d v, Q (.panic c) (a.put (some d) v) w → Q (.panic c) a w) (R : List Nat) (w : World) (hS : S w) :
    ∀ (E : List Nat) (fuel : Nat) (listed : Array Bool) (a : Act), E.length + R.length ≤ fuel → earlyB ops R E listed = true →
    wpEarly P ops S (fun a' => wpLate P ops Q S (R.filterMap (ops[·]?)) a' w) (E.filterMap (ops[·]?)) a → wpAnyH P .any ops Q S fuel listed a w
  | [], fuel, listed, a, hf, hB, h => late_sound R fuel listed a w hS (by simpa using hf) hB h
  | i :: E, 0, _, _, hf, _, _ => by simp at hf
  | i :: E, fuel + 1, listed, a, hf, hB, h => by
    simp only [earlyB, Bool.and_eq_true] at hB
    obtain ⟨⟨⟨⟨h1, h2⟩, h3⟩, h4⟩, h5⟩ := hB
    obtain ⟨o, ho⟩ := Option.isSome_iff_exists.1 h1
    obtain ⟨d, hd⟩ := Option.isSome_iff_exists.1 h2
    have hd : o.dst = some d := by simpa [ho] using hd
    simp only [List.filterMap_cons, ho, wpEarly] at h
    split at h
    · rename_i hw
      obtain ⟨v, hv, hn⟩ := h
      refine wpAnyH_take ho hsel h3 h4 (fun c a w => by rw [hd]; exact hQ c a w d v) (.inl ⟨hw, fun w hw => hv ⟨w, hw⟩⟩) hS ?_
      exact early_sound hsel hQ R w hS E fuel _ _ (by simp at hf; omega) h5 hn
    · rename_i hw
      refine wpAnyH_take ho hsel h3 h4 (fun c a w => by rw [hd]; exact hQ c a w d undef) (.inr ⟨by simpa using hw, rfl⟩) hS ?_
      exact early_sound hsel hQ R w hS E fuel _ _ (by simp at hf; omega) h5 h

theorem wp_region_plan {id : Nat} {Q : Exit → Act → World → Prop} {a : Act} {w : World} {l : List Oper} (S : World → Prop) (E R : List Nat) (hm : P.follows .mixedOrders = true) (hB : planB l.toArray E R = true) (hS : S w.drew)
    (h : Nonempty (Held S) → wpEarly P l.toArray S (fun a' => wpLate P l.toArray (NoPanic Q) S (R.filterMap (l.toArray[·]?)) a' w.drew) (E.filterMap (l.toArray[·]?)) a) : (Code.region id l.toArray true).wp P Q a w := by
  simp only [planB, Bool.and_eq_true, beq_iff_eq] at hB
  obtain ⟨⟨h1, h2⟩, h3⟩ := hB
  refine wp_region_noPanic (wp_region_held (S := S) hm ?_)
  exact early_sound h1 (fun _ _ _ _ _ h => (h : False).elim) R w.drew hS E _ _ a (by omega) h2 (h ⟨⟨_, hS⟩⟩)

theorem Held.cell {S : World → Prop} {p : Addr} {v : Value} (h : ∀ x, S x → x.cell? p = some v) : ∀ y : Held S, y.x.cell? p = some v := fun y => h y.x y.h
end
end Go.Proofs.Ytcckipckgnkieaa
