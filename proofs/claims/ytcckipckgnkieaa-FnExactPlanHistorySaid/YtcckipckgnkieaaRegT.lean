/-
  A region that draws its order, whose last operations may turn what its early operations read: those last ones wait for each early one by an edge of their own, so that what is shown of the world need not be shown behind them.
-/
import Derived.Test.YtcckipckgnkieaaReg
namespace Go.Proofs.Ytcckipckgnkieaa
open Go.RowKit

section
variable {P : Program} {ops : Array Oper} {Q : Exit → Act → World → Prop} {md : Region.Mode} {S : World → Prop} {L : List Nat}

/-- Whatever order is picked; S holds behind every operation that is not in L. -/
def wpAnyT (P : Program) (md : Region.Mode) (ops : Array Oper) (Q : Exit → Act → World → Prop) (S : World → Prop) (L : List Nat) : Nat → Array Bool → Act → World → Prop
  | 0, listed, a, w => Region.ready md ops listed = [] ∧ Q .normal a w
  | fuel + 1, listed, a, w => (Region.ready md ops listed = [] → Q .normal a w) ∧
    ∀ i ∈ Region.ready md ops listed, wpOp P ops Q i (fun a' w' => (L.contains i = false → S w') ∧ wpAnyT P md ops Q S L fuel (listed.setIfInBounds i true) a' w') a w

theorem wpAny_of_T : ∀ (fuel : Nat) (listed : Array Bool) (a : Act) (w : World), wpAnyT P md ops Q S L fuel listed a w → wpAny P md ops Q fuel listed a w
  | 0, _, _, _, h => h
  | fuel + 1, _, _, _, h => ⟨h.1, fun i hi => wpOp_mono (fun a' w' h' => wpAny_of_T fuel _ a' w' h'.2) (h.2 i hi)⟩

theorem wpAnyT_first {i : Nat} {oi : Oper} {v : Value} (hi : ops[i]? = some oi) (hsel : ∀ (j : Nat) (o : Oper) cs b, ops[j]? = some o → o.op ≠ .select cs b) (hQ : ∀ c a w, Q (.panic c) (a.put oi.dst v) w → Q (.panic c) a w)
    (hT : ∀ (j : Nat) (o : Oper), ops[j]? = some o → L.contains j = true → ∃ e ∈ o.after, Region.binds md e = true ∧ e.on = i) :
    ∀ (fuel : Nat) (listed : Array Bool) (a : Act) (w : World),
      (∀ j oj, ops[j]? = some oj → j ≠ i → listed.getD j true = false → (∀ e ∈ oj.after, Region.binds md e = true → e.on ≠ i) → oi.apart ops oj = true) →
      i ∈ Region.ready md ops listed → YieldsIf P ops S oi v a → S w →
      wpAnyT P md ops Q S L fuel (listed.setIfInBounds i true) (a.put oi.dst v) w → wpAnyT P md ops Q S L (fuel + 1) listed a w := by
  intro fuel
  induction fuel with
  | zero =>
    intro listed a w _ hr hy hS H
    refine ⟨fun h => (by rw [h] at hr; cases hr), fun j hj => ?_⟩
    by_cases hji : j = i
    · subst hji; exact hy.wpOp hi hS ⟨fun _ => hS, H⟩
    · have h0 := ready_mono hj hji
      rw [H.1] at h0
      cases h0
  | succ fuel ih =>
    intro listed a w hfree hr hy hS H
    refine ⟨fun h => (by rw [h] at hr; cases hr), fun j hj => ?_⟩
    by_cases hji : j = i
    · subst hji; exact hy.wpOp hi hS ⟨fun _ => hS, H⟩
    · obtain ⟨hjun, oj, hoj, hall⟩ := mem_ready.1 hj
      have hnot : ∀ e ∈ oj.after, Region.binds md e = true → e.on ≠ i := fun e he hb heq => by
        have h1 := hall e he hb
        have h0 := (mem_ready.1 hr).1
        rw [heq] at h1
        rcases Nat.lt_or_ge i listed.size with h' | h'
        · simp [h'] at h0 h1; rw [h0] at h1; cases h1
        · simp [Array.getElem?_eq_none h'] at h1
      have hTj : L.contains j = false := by
        cases hc : L.contains j with
        | false => rfl
        | true =>
          obtain ⟨e, he, hb, h1⟩ := hT j oj hoj hc
          exact absurd h1 (hnot e he hb)
      have h2 := wpOp_putIf hoj (hfree j oj hoj hji hjun hnot) (fun cs b => hsel i oi cs b hi) (fun cs b => hsel j oj cs b hoj) hQ hy (H.2 j (ready_mono hj hji))
      refine wpOp_mono (fun a' w' h3 => ⟨fun _ => h3.2.1 hTj, ih (listed.setIfInBounds j true) a' w' ?_ (ready_mono hr (Ne.symm hji)) h3.1 (h3.2.1 hTj) ?_⟩) h2
      · intro k ok hk hki hun hno
        refine hfree k ok hk hki ?_ hno
        by_cases hjk : j = k
        · subst hjk; exact hjun
        · rw [getD_set_ne true hjk] at hun; exact hun
      · rw [Array.setIfInBounds_comm _ _ hji]
        exact h3.2.2

/-- The operations in a forced order, S shown behind each. -/
def wpLateC (P : Program) (ops : Array Oper) (Q : Exit → Act → World → Prop) (S : World → Prop) (K : Act → World → Prop) : List Oper → Act → World → Prop
  | [], a, w => K a w
  | o :: rest, a, w => if Region.wanted o (yielded ops a.tmps) then o.wp P a w (fun a' w' => S w' ∧ wpLateC P ops Q S K rest a' w') Q else wpLateC P ops Q S K rest (a.put o.dst undef) w
theorem wpLateC_step {K' : Act → World → Prop} {a : Act} {w : World} {o : Oper} {rest : List Oper} (hg : o.guard = none)
    (h : ∀ K : Act → World → Prop, (∀ a w, S w ∧ wpLateC P ops Q S K' rest a w → K a w) → o.wp P a w K Q) : wpLateC P ops Q S K' (o :: rest) a w := by
  unfold wpLateC
  rw [if_pos (by simp [Region.wanted, hg])]
  exact h _ (fun _ _ h => h)
theorem wpLateC_tail {K' : Act → World → Prop} {a : Act} {w : World} {o : Oper} {rest : List Oper} (hg : o.guard = none)
    (h : ∀ K : Act → World → Prop, (∀ a w, wpLateC P ops Q (fun _ => True) K' rest a w → K a w) → o.wp P a w K Q) : wpLateC P ops Q (fun _ => True) K' (o :: rest) a w :=
  wpLateC_step hg fun K hK => h K fun a w h' => hK a w ⟨trivial, h'⟩
theorem wpLateC_nil {K' : Act → World → Prop} {a : Act} {w : World} (h : K' a w) : wpLateC P ops Q S K' [] a w := h

def tailT (P : Program) (ops : Array Oper) (Q : Exit → Act → World → Prop) (L : List Nat) (a : Act) (w : World) : Prop :=
  wpLateC P ops Q (fun _ => True) (fun a w => Q .normal a w) (L.filterMap (ops[·]?)) a w
def waitB (ops : Array Oper) (L : List Nat) (i : Nat) : Bool := L.all fun j => match ops[j]? with
  | some o => o.after.any fun e => Region.binds .any e && e.on == i
  | none => true
def lateT (ops : Array Oper) (L : List Nat) : List Nat → Array Bool → Bool
  | [], listed => lateB ops L listed
  | i :: R, listed => !L.contains i && (ops[i]?).isSome && Region.ready .any ops listed == [i] && lateT ops L R (listed.setIfInBounds i true)
def earlyT (ops : Array Oper) (R L : List Nat) : List Nat → Array Bool → Bool
  | [], listed => lateT ops L R listed
  | i :: E, listed => (ops[i]?).isSome && ((ops[i]?).bind (·.dst)).isSome && waitB ops L i && Region.free .any ops listed i && (Region.ready .any ops listed).contains i && earlyT ops R L E (listed.setIfInBounds i true)
def planT (ops : Array Oper) (E R L : List Nat) : Bool := Region.noSelect ops && earlyT ops R L E (Array.replicate ops.size false) && E.length + R.length + L.length == ops.size

theorem waitB_spec {i : Nat} (h : waitB ops L i = true) (j : Nat) (o : Oper) (hj : ops[j]? = some o) (hc : L.contains j = true) : ∃ e ∈ o.after, Region.binds .any e = true ∧ e.on = i := by
  have h1 := List.all_eq_true.mp h j (by simpa using hc)
  simp only [hj] at h1
  rw [Array.any_eq_true] at h1
  obtain ⟨k, hk, h2⟩ := h1
  simp only [Bool.and_eq_true, beq_iff_eq] at h2
  exact ⟨_, Array.getElem_mem hk, h2⟩

theorem wpAnyT_done {listed : Array Bool} {a : Act} {w : World} (hr : Region.ready md ops listed = []) (h : Q .normal a w) : ∀ fuel, wpAnyT P md ops Q S L fuel listed a w
  | 0 => ⟨hr, h⟩
  | _ + 1 => ⟨fun _ => h, by rw [hr]; simp⟩

theorem tail_sound : ∀ (T : List Nat) (fuel : Nat) (listed : Array Bool) (a : Act) (w : World), (∀ i ∈ T, L.contains i = true) → T.length ≤ fuel → lateB ops T listed = true →
    wpLateC P ops Q (fun _ => True) (fun a w => Q .normal a w) (T.filterMap (ops[·]?)) a w → wpAnyT P .any ops Q S L fuel listed a w
  | [], fuel, listed, a, w, _, _, hB, h => wpAnyT_done (by simpa [lateB] using hB) (by simpa [wpLateC] using h) fuel
  | i :: T, 0, _, _, _, _, hf, _, _ => by simp at hf
  | i :: T, fuel + 1, listed, a, w, hL, hf, hB, h => by
    simp only [lateB, Bool.and_eq_true, beq_iff_eq] at hB
    obtain ⟨⟨h1, h2⟩, h3⟩ := hB
    obtain ⟨o, ho⟩ := Option.isSome_iff_exists.1 h1
    refine ⟨(fun h0 => by rw [h0] at h2; cases h2), fun j hj => ?_⟩
    rw [h2] at hj
    obtain rfl : j = i := by simpa using hj
    have hLi := hL j (by simp)
    simp only [List.filterMap_cons, ho, wpLateC] at h
    simp only [wpOp, ho]
    split
    · rename_i hw
      rw [if_pos hw] at h
      refine .inl (Oper.wp_mono (fun a' w' h' => ⟨(fun e => by rw [hLi] at e; cases e), tail_sound T fuel _ a' w' (fun i hi => hL i (by simp [hi])) (by simpa using hf) h3 h'.2⟩) h)
    · rename_i hw
      rw [if_neg hw] at h
      exact ⟨(fun e => by rw [hLi] at e; cases e), tail_sound T fuel _ _ w (fun i hi => hL i (by simp [hi])) (by simpa using hf) h3 h⟩

theorem late_soundT : ∀ (R : List Nat) (fuel : Nat) (listed : Array Bool) (a : Act) (w : World), S w → R.length + L.length ≤ fuel → lateT ops L R listed = true →
    wpLateC P ops Q S (tailT P ops Q L) (R.filterMap (ops[·]?)) a w → wpAnyT P .any ops Q S L fuel listed a w
  | [], fuel, listed, a, w, _, hf, hB, h => tail_sound L fuel listed a w (fun i hi => by simpa using hi) (by simpa using hf) hB h
  | i :: R, 0, _, _, _, _, hf, _, _ => by simp at hf
  | i :: R, fuel + 1, listed, a, w, hS, hf, hB, h => by
    simp only [lateT, Bool.and_eq_true, beq_iff_eq, Bool.not_eq_true'] at hB
    obtain ⟨⟨⟨h0, h1⟩, h2⟩, h3⟩ := hB
    obtain ⟨o, ho⟩ := Option.isSome_iff_exists.1 h1
    refine ⟨(fun h0 => by rw [h0] at h2; cases h2), fun j hj => ?_⟩
    rw [h2] at hj
    obtain rfl : j = i := by simpa using hj
    simp only [List.filterMap_cons, ho, wpLateC] at h
    simp only [wpOp, ho]
    split
    · rename_i hw
      rw [if_pos hw] at h
      refine .inl (Oper.wp_mono (fun a' w' h' => ⟨fun _ => h'.1, late_soundT R fuel _ a' w' h'.1 (by simp at hf; omega) h3 h'.2⟩) h)
    · rename_i hw
      rw [if_neg hw] at h
      exact ⟨fun _ => hS, late_soundT R fuel _ _ w hS (by simp at hf; omega) h3 h⟩

theorem early_soundT (hsel : Region.noSelect ops = true) (hQ : ∀ c a w d v, Q (.panic c) (a.put (some d) v) w → Q (.panic c) a w) (R : List Nat) (w : World) (hS : S w) :
    ∀ (E : List Nat) (fuel : Nat) (listed : Array Bool) (a : Act), E.length + R.length + L.length ≤ fuel → earlyT ops R L E listed = true →
    wpEarly P ops S (fun a' => wpLateC P ops Q S (tailT P ops Q L) (R.filterMap (ops[·]?)) a' w) (E.filterMap (ops[·]?)) a → wpAnyT P .any ops Q S L fuel listed a w
  | [], fuel, listed, a, hf, hB, h => late_soundT R fuel listed a w hS (by simpa using hf) hB h
  | i :: E, 0, _, _, hf, _, _ => by simp at hf
  | i :: E, fuel + 1, listed, a, hf, hB, h => by
    simp only [earlyT, Bool.and_eq_true] at hB
    obtain ⟨⟨⟨⟨⟨h1, h2⟩, h3⟩, h4⟩, h5⟩, h6⟩ := hB
    obtain ⟨o, ho⟩ := Option.isSome_iff_exists.1 h1
    obtain ⟨d, hd⟩ := Option.isSome_iff_exists.1 h2
    have hd : o.dst = some d := by simpa [ho] using hd
    simp only [List.filterMap_cons, ho, wpEarly] at h
    split at h
    · rename_i hw
      obtain ⟨v, hv, hn⟩ := h
      refine wpAnyT_first ho (Region.noSelect_spec hsel) (fun c a w => by rw [hd]; exact hQ c a w d v) (waitB_spec h3) fuel listed a w (Region.free_spec ho h4) (by simpa using h5) (.inl ⟨hw, fun w hw => hv ⟨w, hw⟩⟩) hS ?_
      exact early_soundT hsel hQ R w hS E fuel _ _ (by simp at hf; omega) h6 hn
    · rename_i hw
      refine wpAnyT_first ho (Region.noSelect_spec hsel) (fun c a w => by rw [hd]; exact hQ c a w d undef) (waitB_spec h3) fuel listed a w (Region.free_spec ho h4) (by simpa using h5) (.inr ⟨by simpa using hw, rfl⟩) hS ?_
      exact early_soundT hsel hQ R w hS E fuel _ _ (by simp at hf; omega) h6 h

theorem wp_region_planT {id : Nat} {a : Act} {w : World} {l : List Oper} (S : World → Prop) (E R L : List Nat) (hm : P.follows .mixedOrders = true) (hB : planT l.toArray E R L = true) (hS : S w.drew)
    (h : Nonempty (Held S) → wpEarly P l.toArray S (fun a' => wpLateC P l.toArray (NoPanic Q) S (tailT P l.toArray (NoPanic Q) L) (R.filterMap (l.toArray[·]?)) a' w.drew) (E.filterMap (l.toArray[·]?)) a) : (Code.region id l.toArray true).wp P Q a w := by
  simp only [planT, Bool.and_eq_true, beq_iff_eq] at hB
  obtain ⟨⟨h1, h2⟩, h3⟩ := hB
  refine wp_region_noPanic (wp_region_any hm (wpAny_of_T (S := S) (L := L) _ _ _ _ ?_))
  exact early_soundT h1 (fun _ _ _ _ _ h => (h : False).elim) R w.drew hS E _ _ a (by omega) h2 (h ⟨⟨_, hS⟩⟩)
end
end Go.Proofs.Ytcckipckgnkieaa
