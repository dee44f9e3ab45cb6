/-
  Slices of one-cell elements as lists: one that is read ('RdL'), one that the call itself made ('OwnL'); append of one element. Nothing of the program is named here.
-/
import Derived.Test.YtcckipckgnkieaaBase
import Derived.Maps.AppendAt
import Derived.Laws.OwnMore
namespace Go.Proofs.Ytcckipckgnkieaa
open Go.RowKit

/-- The elements of a slice at address A read as xs. -/
def RdL {α : Type} (f : α → Value) (w : World) (A : Option Addr) (xs : List α) : Prop :=
  xs = [] ∨ ∃ b o, A = some ⟨b, o, none⟩ ∧ ∀ i x, xs[i]? = some x → w.cell? ⟨b, o + i, none⟩ = some (f x)

abbrev fI : Int → Value := Value.int .i64
abbrev fB : Bool → Value := Value.bool

section
variable {α : Type} {f : α → Value} {w w' : World} {A : Option Addr} {xs : List α}
theorem RdL.nil : RdL f w A [] := .inl rfl
theorem RdL.at (h : RdL f w A xs) {k : Nat} (hk : k < xs.length) : ∃ b o, A = some ⟨b, o, none⟩ ∧ w.cell? ⟨b, o + k, none⟩ = some (f xs[k]) := by
  rcases h with rfl | ⟨b, o, hA, hc⟩
  · simp at hk
  · exact ⟨b, o, hA, hc k _ (List.getElem?_eq_getElem hk)⟩
theorem RdL.keep (h : RdL f w A xs) (hk : ∀ a v, w.cell? a = some v → w'.cell? a = some v) : RdL f w' A xs := by
  rcases h with rfl | ⟨b, o, hA, hc⟩
  · exact .inl rfl
  · exact .inr ⟨b, o, hA, fun i x hx => hk _ _ (hc i x hx)⟩
theorem RdL.below (h : RdL f w A xs) (hb : Below w.heap.size w w') : RdL f w' A xs :=
  h.keep fun a _ ha => (hb.cell (World.block_lt_of_cell? w a ha)).trans ha
theorem RdL.belowB {B : Nat} (h : RdL f w A xs) (hb : Below B w w') (hB : ∀ b o, A = some ⟨b, o, none⟩ → b < B) : RdL f w' A xs := by
  rcases h with rfl | ⟨b, o, hA, hc⟩
  · exact .inl rfl
  · exact .inr ⟨b, o, hA, fun i x hx => (hb.cell (hB b o hA)).trans (hc i x hx)⟩
theorem RdL.alloc (h : RdL f w A xs) (o : Obj) : RdL f (w.alloc o) A xs := h.below ((Below.refl _ _).alloc (Nat.le_refl _) _)
theorem RdL.drew (h : RdL f w A xs) : RdL f w.drew A xs := h.below (Below.refl _ _).drew
theorem RdL.grown {row : Option Nat} (h : RdL f w A xs) (hg : w.grownBy w' row) (hne : ∀ b o, A = some ⟨b, o, none⟩ → some b ≠ row) : RdL f w' A xs := by
  rcases h with rfl | ⟨b, o, hA, hc⟩
  · exact .inl rfl
  · exact .inr ⟨b, o, hA, fun i x hx => hg.cell (hc i x hx) (hne b o hA)⟩
theorem RdL.grow {W : World} (h : RdL f W A xs) (y : Grow W) : RdL f y.x A xs := h.below y.h
theorem RdL.take (h : RdL f w A xs) (n : Nat) : RdL f w A (xs.take n) := by
  rcases h with rfl | ⟨b, o, hA, hc⟩
  · simp [RdL]
  · refine .inr ⟨b, o, hA, fun i x hx => ?_⟩
    rw [List.getElem?_take] at hx
    split at hx
    · exact hc i x hx
    · cases hx
end

/-- The slice '.slice A xs.length cap' of the call's own holds xs. -/
def OwnL {α : Type} (f : α → Value) (w : World) (lo : Nat) (e : TypeId) (A : Option Addr) (cap : Nat) (xs : List α) : Prop :=
  w.ownsRow lo e 1 (.slice A xs.length cap) xs.length (xs.map f)

abbrev blk (A : Option Addr) : Option Nat := A.map (·.block)

section
variable {α : Type} {f : α → Value} {w w' : World} {lo : Nat} {e : TypeId} {A : Option Addr} {cap : Nat} {xs : List α}
theorem ownBlock_slice (A : Option Addr) (n c : Nat) : (Value.slice A n c).ownBlock = blk A := by cases A <;> rfl
theorem OwnL.nil (f : α → Value) (w : World) (lo : Nat) (e : TypeId) : OwnL f w lo e none 0 [] := World.ownsRow_nil _ _ _ _
theorem OwnL.addr (h : OwnL f w lo e A cap xs) : A = none ∧ xs = [] ∧ cap = 0 ∨ ∃ g cur, A = some ⟨g, 0, none⟩ ∧ lo ≤ g ∧ Blk w g e cur ∧ xs.length ≤ cap ∧ cap ≤ maxLen ∧ cur.size = cap ∧ cur.toList.take xs.length = xs.map f := by
  rcases h.2 with ⟨hv, hn⟩ | ⟨g, c, cur, hv, hg, hh, h1, h2, h3, h4⟩
  · injection hv with h1 h2 h3
    exact .inl ⟨h1, List.eq_nil_of_length_eq_zero hn, h3⟩
  · injection hv with e1 e2 e3
    subst e3
    exact .inr ⟨g, cur, e1, hg, hh, h1, h2, by simpa using h3, by simpa using h4⟩
theorem OwnL.rd (h : OwnL f w lo e A cap xs) : RdL f w A xs := by
  rcases h.addr with ⟨_, rfl, _⟩ | ⟨g, cur, rfl, _, hb, _, _, _, ht⟩
  · exact .inl rfl
  · refine .inr ⟨g, 0, rfl, fun i x hx => ?_⟩
    have hi : i < xs.length := (List.getElem?_eq_some_iff.1 hx).1
    have h2 : (cur.toList.take xs.length)[i]? = some (f x) := by rw [ht]; simp [hx]
    rw [List.getElem?_take, if_pos hi] at h2
    rw [Nat.zero_add, hb.cell]
    simpa using h2
theorem OwnL.lt (h : OwnL f w lo e A cap xs) : ∀ b o s, A = some ⟨b, o, s⟩ → lo ≤ b ∧ b < w.heap.size := by
  intro b o s hA
  rcases h.addr with ⟨h1, _⟩ | ⟨g, cur, h1, hg, hb, _⟩
  · rw [hA] at h1; cases h1
  · rw [hA] at h1
    injection h1 with h1
    injection h1 with h1
    subst h1
    exact ⟨hg, hb.lt⟩
theorem OwnL.grown {row : Option Nat} (h : OwnL f w lo e A cap xs) (hg : w.grownBy w' row) (hne : blk A = none ∨ blk A ≠ row) : OwnL f w' lo e A cap xs :=
  World.ownsRow.kept h hg (by rw [ownBlock_slice]; exact hne)
theorem OwnL.below (h : OwnL f w lo e A cap xs) (hb : Below w.heap.size w w') : OwnL f w' lo e A cap xs :=
  h.grown (only_of_below hb none) (by cases A <;> simp)
theorem OwnL.alloc (h : OwnL f w lo e A cap xs) (o : Obj) : OwnL f (w.alloc o) lo e A cap xs := h.below ((Below.refl _ _).alloc (Nat.le_refl _) _)
theorem OwnL.drew (h : OwnL f w lo e A cap xs) : OwnL f w.drew lo e A cap xs := h.below (Below.refl _ _).drew
theorem OwnL.mono {lo' : Nat} (h : OwnL f w lo e A cap xs) (hl : lo' ≤ lo) : OwnL f w lo' e A cap xs := by
  refine ⟨h.1, ?_⟩
  rcases h.2 with h | ⟨g, c, cur, hv, hg, r⟩
  · exact .inl h
  · exact .inr ⟨g, c, cur, hv, by omega, r⟩
theorem OwnL.of_blk {g : Nat} (hb : Blk w g e (xs.map f).toArray) (hlo : lo ≤ g) (hm : xs.length ≤ maxLen) : OwnL f w lo e (some ⟨g, 0, none⟩) xs.length xs :=
  ⟨by simp, .inr ⟨g, xs.length, _, rfl, hlo, hb, Nat.le_refl _, hm, by simp, by simp [List.take_of_length_le]⟩⟩
theorem OwnL.of_cap {g : Nat} {cur : Array Value} (f : α → Value) (hb : Blk w g e cur) (hlo : lo ≤ g) (hc : cur.size = cap) (hm : cap ≤ maxLen) : OwnL f w lo e (some ⟨g, 0, none⟩) cap [] :=
  ⟨by simp, .inr ⟨g, cap, cur, rfl, hlo, hb, by simp, hm, by simpa using hc, by simp⟩⟩
theorem OwnL.frozen (h : OwnL f w lo e A cap xs) : ∀ b o s i, A = some ⟨b, o, s⟩ → w.frozen? ⟨b, i, none⟩ = false := by
  intro b o s i hA
  rcases h.addr with ⟨h1, _⟩ | ⟨g, cur, h1, hg, hb, _⟩
  · rw [hA] at h1; cases h1
  · rw [hA] at h1
    injection h1 with h1
    injection h1 with h1
    subst h1
    exact hb.frozen i
theorem OwnL.at {k : Nat} (h : OwnL f w lo e A cap xs) (hk : k < xs.length) : ∃ g, A = some ⟨g, 0, none⟩ ∧ w.cell? ⟨g, k, none⟩ = some (f xs[k]) ∧ w.frozen? ⟨g, k, none⟩ = false ∧ lo ≤ g ∧ g < w.heap.size := by
  rcases h.addr with ⟨_, rfl, _⟩ | ⟨g, cur, rfl, hg, hb, _⟩
  · simp at hk
  · obtain ⟨b, o, hA, hc⟩ := h.rd.at hk
    injection hA with hA
    injection hA with h1 h2
    subst h1 h2
    exact ⟨g, rfl, by simpa using hc, hb.frozen k, hg, hb.lt⟩
/-- An element is stored. -/
theorem OwnL.set {g k : Nat} {x : α} (h : OwnL f w lo e (some ⟨g, 0, none⟩) cap xs) : OwnL f (w.setCell ⟨g, k, none⟩ (f x)) lo e (some ⟨g, 0, none⟩) cap (xs.set k x) := by
  rcases h.addr with ⟨h1, _⟩ | ⟨g', cur, h1, hg, hb, h2, h3, h4, h5⟩
  · cases h1
  · injection h1 with h1
    injection h1 with h1
    subst h1
    refine ⟨by simp, .inr ⟨g, cap, cur.setIfInBounds k (f x), by simp, hg, hb.set_ k (f x), by simpa using h2, h3, by simpa using h4, ?_⟩⟩
    simp only [Array.toList_setIfInBounds, List.length_set, Nat.mul_one]
    rw [List.take_set, h5, List.map_set]
theorem only_set {g k : Nat} (v : Value) : w.grownBy (w.setCell ⟨g, k, none⟩ v) (some g) := only_setCell (only_refl _ _) (.inl rfl) v

/-- append of one element to a slice of the call's own. -/
theorem wp_push {P : Program} {o : Oper} {a : Act} {K : Act → World → Prop} {Q : Exit → Act → World → Prop} (s x : Operand) (t : TypeId)
    (ho : o.op = .call { callee := .builtin .append, args := #[s, x], argTypes := #[t, t] })
    (i : TypeInfo) (z : Value) (bytes : Nat) (ht : P.underlying t = some (.slice e)) (hi : P.info? e = some i) (hz : i.zero = some z) (hsize : i.size = 1) (hby : i.bytes = bytes) (hzs : z.cells.size = 1)
    (hs : a.eval s = .slice A xs.length cap) (hown : OwnL f w lo e A cap xs) (g : Nat) (u : α) (hx : a.eval x = .slice (some ⟨g, 0, none⟩) 1 1) (hu : w.cell? ⟨g, 0, none⟩ = some (f u)) (h1 : (f u).oneCell' = true)
    (hlen : xs.length ≤ 1000000) (hb8 : bytes ≤ 1000) (hlo : lo ≤ w.heap.size)
    (h : ∀ A' cap' w', OwnL f w' lo e A' cap' (xs ++ [u]) → w.grownBy w' (blk A) → (blk A' = blk A ∨ blk A' = some w.heap.size) → K (a.put o.dst (.slice A' (xs.length + 1) cap')) w') : o.wp P a w K Q := by
  have hbd : (xs.length + 1) * bytes ≤ 140737488355328 := by
    have h1 := Nat.mul_le_mul (show xs.length + 1 ≤ 1000001 by omega) hb8
    omega
  obtain ⟨v', w', hrun, h2, h3, _, h5⟩ := run_append_own_at (P := P) w lo t o.type e i z 1 bytes ht hi hz hsize hby hzs (by omega) _ xs.length (xs.map f) hown ⟨g, 0, none⟩ 1 1 [f u] (by simp)
    (by
      intro j v hj
      cases j with
      | zero => simp at hj; subst hj; simpa [Addr.add] using hu
      | succ j => simp at hj)
    (by intro v hv; simp at hv; subst hv; exact h1) (by unfold maxLen; omega) hbd hlo
  rw [ownBlock_slice] at h3 h5
  have hv' : ∃ A' cap', v' = .slice A' (xs.length + 1) cap' := by
    rcases h2.2 with ⟨_, hn⟩ | ⟨g', c, cur, hv, _⟩
    · omega
    · exact ⟨_, _, hv⟩
  obtain ⟨A', cap', rfl⟩ := hv'
  rw [ownBlock_slice] at h5
  unfold Oper.wp execOp
  simp only [ho, resolve, invoke, builtin, Sem.run_bind, Sem.run_pure, Result.andThen_ok, List.map_toArray, List.map_cons, List.map_nil, hs, hx, hrun]
  exact h A' cap' w' (by unfold OwnL; simpa using h2) h3 h5
theorem wpList_push {P : Program} {ops : Array Oper} {rest : List Oper} {o : Oper} {a : Act} {Q : Exit → Act → World → Prop} (hgd : o.guard = none) (s x : Operand) (t : TypeId)
    (ho : o.op = .call { callee := .builtin .append, args := #[s, x], argTypes := #[t, t] })
    (i : TypeInfo) (z : Value) (bytes : Nat) (ht : P.underlying t = some (.slice e)) (hi : P.info? e = some i) (hz : i.zero = some z) (hsize : i.size = 1) (hby : i.bytes = bytes) (hzs : z.cells.size = 1)
    (hs : a.eval s = .slice A xs.length cap) (hown : OwnL f w lo e A cap xs) (g : Nat) (u : α) (hx : a.eval x = .slice (some ⟨g, 0, none⟩) 1 1) (hu : w.cell? ⟨g, 0, none⟩ = some (f u)) (h1 : (f u).oneCell' = true)
    (hlen : xs.length ≤ 1000000) (hb8 : bytes ≤ 1000) (hlo : lo ≤ w.heap.size)
    (h : ∀ A' cap' w', OwnL f w' lo e A' cap' (xs ++ [u]) → w.grownBy w' (blk A) → (blk A' = blk A ∨ blk A' = some w.heap.size) → wpList P ops Q rest (a.put o.dst (.slice A' (xs.length + 1) cap')) w') : wpList P ops Q (o :: rest) a w :=
  wpList_plain hgd fun _ hK => wp_push s x t ho i z bytes ht hi hz hsize hby hzs hs hown g u hx hu h1 hlen hb8 hlo fun A' cap' w' h2 h3 h4 => hK _ _ (h A' cap' w' h2 h3 h4)
end

theorem run_append_nil {P : Program} (w : World) (lo : Nat) (t ty e : TypeId) (i : TypeInfo) (ht : P.underlying t = some (.slice e)) (hi : P.info? e = some i)
    (v : Value) (n : Nat) (xs : List Value) (hown : w.ownsRow lo e 1 v n xs) (c : Nat) : (Builtin.append_ #[t, t] ty #[v, .slice none 0 c]).run P w = .ok v w := by
  rcases hown.2 with ⟨rfl, rfl⟩ | ⟨g, cap, cur, rfl, _, _, hnc, _⟩
  · simp [Builtin.append_, run_underlying ht, sizeOf, typeInfo, hi, Builtin.lenOf, Builtin.firstCells]
  · simp [Builtin.append_, run_underlying ht, sizeOf, typeInfo, hi, Builtin.lenOf, Builtin.firstCells, hnc, storeCells]

/-- append of a whole slice to a slice of the call's own. -/
theorem wp_appendL {α : Type} {f : α → Value} {w : World} {lo : Nat} {e : TypeId} {A : Option Addr} {cap : Nat} {xs : List α} {P : Program} {o : Oper} {a : Act} {K : Act → World → Prop} {Q : Exit → Act → World → Prop} (s x : Operand) (t : TypeId)
    (ho : o.op = .call { callee := .builtin .append, args := #[s, x], argTypes := #[t, t] })
    (i : TypeInfo) (z : Value) (bytes : Nat) (ht : P.underlying t = some (.slice e)) (hi : P.info? e = some i) (hz : i.zero = some z) (hsize : i.size = 1) (hby : i.bytes = bytes) (hzs : z.cells.size = 1)
    (hs : a.eval s = .slice A xs.length cap) (hown : OwnL f w lo e A cap xs) (B : Option Addr) (ys : List α) (d : Nat) (hx : a.eval x = .slice B ys.length d) (hr : RdL f w B ys) (h1 : ∀ u, (f u).oneCell' = true)
    (hlen : xs.length + ys.length ≤ 100000000) (hb8 : bytes ≤ 1000) (hlo : lo ≤ w.heap.size)
    (h : ∀ A' cap' w', OwnL f w' lo e A' cap' (xs ++ ys) → w.grownBy w' (blk A) → (blk A' = blk A ∨ blk A' = some w.heap.size) → K (a.put o.dst (.slice A' (xs ++ ys).length cap')) w') : o.wp P a w K Q := by
  have hbd : (xs.length + ys.length) * bytes ≤ 140737488355328 := by
    have h1 := Nat.mul_le_mul hlen hb8
    omega
  have key : ∃ A' cap' w', (Builtin.append_ #[t, t] o.type #[.slice A xs.length cap, .slice B ys.length d]).run P w = .ok (.slice A' (xs ++ ys).length cap') w' ∧ OwnL f w' lo e A' cap' (xs ++ ys) ∧ w.grownBy w' (blk A) ∧ (blk A' = blk A ∨ blk A' = some w.heap.size) := by
    cases hB : B with
    | none =>
      have hy : ys = [] := by
        rcases hr with h | ⟨b, o, hA, _⟩
        · exact h
        · rw [hB] at hA; cases hA
      subst hy
      have hrun := run_append_nil (P := P) w lo t o.type e i ht hi _ xs.length (xs.map f) hown d
      simp only [List.append_nil, List.length_nil]
      exact ⟨A, cap, w, hrun, hown, only_refl _ _, .inl rfl⟩
    | some ad =>
      obtain ⟨v', w', hrun, h2, h3, _, h5⟩ := run_append_own_at (P := P) w lo t o.type e i z 1 bytes ht hi hz hsize hby hzs (by omega) _ xs.length (xs.map f) hown ad ys.length d (ys.map f) (by simp)
        (by
          intro j v hj
          rw [List.getElem?_map] at hj
          obtain ⟨y, hy, rfl⟩ := Option.map_eq_some_iff.1 hj
          rcases hr with h | ⟨b, o, hA, hc⟩
          · subst h; simp at hy
          · rw [hB] at hA
            injection hA with hA
            subst hA
            have := hc j y hy
            by_cases hj0 : j = 0
            · subst hj0; simpa [Addr.add] using this
            · simpa [Addr.add, hj0] using this)
        (by intro v hv; obtain ⟨y, _, rfl⟩ := List.mem_map.1 hv; exact h1 y) (by unfold maxLen; omega) hbd hlo
      rw [ownBlock_slice] at h3 h5
      have hv' : ∃ A' cap', v' = .slice A' (xs ++ ys).length cap' := by
        rcases h2.2 with ⟨hv, hn⟩ | ⟨g', c, cur, hv, _⟩
        · exact ⟨none, 0, by rw [hv, List.length_append, hn]⟩
        · exact ⟨_, _, by rw [hv, List.length_append]⟩
      obtain ⟨A', cap', rfl⟩ := hv'
      rw [ownBlock_slice] at h5
      exact ⟨A', cap', w', hrun, by unfold OwnL; simpa using h2, h3, h5⟩
  obtain ⟨A', cap', w', hrun, h2, h3, h5⟩ := key
  unfold Oper.wp execOp
  simp only [ho, resolve, invoke, builtin, Sem.run_bind, Sem.run_pure, Result.andThen_ok, List.map_toArray, List.map_cons, List.map_nil, hs, hx, hrun]
  exact h A' cap' w' h2 h3 h5
theorem wpList_appendL {α : Type} {f : α → Value} {w : World} {lo : Nat} {e : TypeId} {A : Option Addr} {cap : Nat} {xs : List α} {P : Program} {ops : Array Oper} {rest : List Oper} {o : Oper} {a : Act} {Q : Exit → Act → World → Prop} (hgd : o.guard = none) (s x : Operand) (t : TypeId)
    (ho : o.op = .call { callee := .builtin .append, args := #[s, x], argTypes := #[t, t] })
    (i : TypeInfo) (z : Value) (bytes : Nat) (ht : P.underlying t = some (.slice e)) (hi : P.info? e = some i) (hz : i.zero = some z) (hsize : i.size = 1) (hby : i.bytes = bytes) (hzs : z.cells.size = 1)
    (hs : a.eval s = .slice A xs.length cap) (hown : OwnL f w lo e A cap xs) (B : Option Addr) (ys : List α) (d : Nat) (hx : a.eval x = .slice B ys.length d) (hr : RdL f w B ys) (h1 : ∀ u, (f u).oneCell' = true)
    (hlen : xs.length + ys.length ≤ 100000000) (hb8 : bytes ≤ 1000) (hlo : lo ≤ w.heap.size)
    (h : ∀ A' cap' w', OwnL f w' lo e A' cap' (xs ++ ys) → w.grownBy w' (blk A) → (blk A' = blk A ∨ blk A' = some w.heap.size) → wpList P ops Q rest (a.put o.dst (.slice A' (xs ++ ys).length cap')) w') : wpList P ops Q (o :: rest) a w :=
  wpList_plain hgd fun _ hK => wp_appendL s x t ho i z bytes ht hi hz hsize hby hzs hs hown B ys d hx hr h1 hlen hb8 hlo fun A' cap' w' h2 h3 h4 => hK _ _ (h A' cap' w' h2 h3 h4)

theorem cell_new (w : World) (v : Value) (T : TypeId) : (w.alloc (.cells #[v] T)).cell? ⟨w.heap.size, 0, none⟩ = some v := (Blk.new w T #[v]).cell 0

/-- A slice of the call's own that may begin inside its block (a queue that has been cut in front). -/
def OwnO {α : Type} (f : α → Value) (w : World) (lo : Nat) (e : TypeId) (A : Option Addr) (cap : Nat) (xs : List α) : Prop :=
  (A = none ∧ xs = [] ∧ cap = 0) ∨ ∃ g off cur, A = some ⟨g, off, none⟩ ∧ lo ≤ g ∧ Blk w g e cur ∧ xs.length ≤ cap ∧ cap ≤ maxLen ∧ off + cap ≤ cur.size ∧ ∀ i x, xs[i]? = some x → cur[off + i]? = some (f x)

section
variable {α : Type} {f : α → Value} {w w' : World} {lo : Nat} {e : TypeId} {A : Option Addr} {cap : Nat} {xs : List α}
theorem OwnO.nil (f : α → Value) (w : World) (lo : Nat) (e : TypeId) : OwnO f w lo e none 0 [] := .inl ⟨rfl, rfl, rfl⟩
theorem OwnL.o (h : OwnL f w lo e A cap xs) : OwnO f w lo e A cap xs := by
  rcases h.addr with h | ⟨g, cur, hA, hg, hb, h1, h2, h3, h4⟩
  · exact .inl h
  · refine .inr ⟨g, 0, cur, hA, hg, hb, h1, h2, by omega, fun i x hx => ?_⟩
    have hi : i < xs.length := (List.getElem?_eq_some_iff.1 hx).1
    have h5 : (cur.toList.take xs.length)[i]? = some (f x) := by rw [h4]; simp [hx]
    rw [List.getElem?_take, if_pos hi] at h5
    simpa using h5
theorem OwnO.rd (h : OwnO f w lo e A cap xs) : RdL f w A xs := by
  rcases h with ⟨_, rfl, _⟩ | ⟨g, off, cur, rfl, _, hb, _, _, _, ht⟩
  · exact .inl rfl
  · exact .inr ⟨g, off, rfl, fun i x hx => by rw [hb.cell]; exact ht i x hx⟩
theorem OwnO.grown {row : Option Nat} (h : OwnO f w lo e A cap xs) (hg : w.grownBy w' row) (hne : blk A = none ∨ blk A ≠ row) : OwnO f w' lo e A cap xs := by
  rcases h with h | ⟨g, off, cur, rfl, h1, hb, r⟩
  · exact .inl h
  · exact .inr ⟨g, off, cur, rfl, h1, hb.grown hg (by simpa using hne), r⟩
theorem OwnO.below (h : OwnO f w lo e A cap xs) (hb : Below w.heap.size w w') : OwnO f w' lo e A cap xs :=
  h.grown (only_of_below hb none) (by cases A <;> simp)
theorem OwnO.alloc (h : OwnO f w lo e A cap xs) (o : Obj) : OwnO f (w.alloc o) lo e A cap xs := h.below ((Below.refl _ _).alloc (Nat.le_refl _) _)
theorem OwnO.mono {lo' : Nat} (h : OwnO f w lo e A cap xs) (hl : lo' ≤ lo) : OwnO f w lo' e A cap xs := by
  rcases h with h | ⟨g, off, cur, h1, h2, r⟩
  · exact .inl h
  · exact .inr ⟨g, off, cur, h1, by omega, r⟩
theorem OwnO.drew (h : OwnO f w lo e A cap xs) : OwnO f w.drew lo e A cap xs := h.below (Below.refl _ _).drew
theorem OwnO.lt (h : OwnO f w lo e A cap xs) : ∀ b, blk A = some b → lo ≤ b ∧ b < w.heap.size := by
  intro b hA
  rcases h with ⟨rfl, _⟩ | ⟨g, off, cur, rfl, hg, hb, _⟩
  · simp at hA
  · simp at hA; subst hA; exact ⟨hg, hb.lt⟩
theorem OwnL.ltb (h : OwnL f w lo e A cap xs) : ∀ b, blk A = some b → lo ≤ b ∧ b < w.heap.size := h.o.lt
theorem OwnO.at {k : Nat} (h : OwnO f w lo e A cap xs) (hk : k < xs.length) : ∃ g o, A = some ⟨g, o, none⟩ ∧ w.cell? ⟨g, o + k, none⟩ = some (f xs[k]) ∧ w.frozen? ⟨g, o + k, none⟩ = false ∧ lo ≤ g ∧ g < w.heap.size := by
  rcases h with ⟨_, rfl, _⟩ | ⟨g, off, cur, rfl, hg, hb, _, _, _, ht⟩
  · simp at hk
  · exact ⟨g, off, rfl, by rw [hb.cell]; exact ht k _ (List.getElem?_eq_getElem hk), hb.frozen _, hg, hb.lt⟩
theorem OwnO.set {g o k : Nat} {x : α} (h : OwnO f w lo e (some ⟨g, o, none⟩) cap xs) (hk : k < xs.length) : OwnO f (w.setCell ⟨g, o + k, none⟩ (f x)) lo e (some ⟨g, o, none⟩) cap (xs.set k x) := by
  rcases h with ⟨h1, _⟩ | ⟨g', off, cur, h1, hg, hb, h2, h3, h4, h5⟩
  · cases h1
  · injection h1 with h1
    injection h1 with h1 h1'
    subst h1 h1'
    refine .inr ⟨g, o, cur.setIfInBounds (o + k) (f x), rfl, hg, hb.set_ _ _, by simpa using h2, h3, by simpa using h4, fun i y hy => ?_⟩
    rw [Array.getElem?_setIfInBounds]
    rw [List.getElem?_set] at hy
    by_cases hi : k = i
    · subst hi
      rw [if_pos rfl, if_pos (by omega)]
      rw [if_pos rfl, if_pos hk] at hy
      injection hy with hy
      rw [hy]
    · rw [if_neg (by omega)]
      rw [if_neg hi] at hy
      exact h5 i y hy
/-- The first element is cut off. -/
theorem OwnO.tail {x : α} (h : OwnO f w lo e A cap (x :: xs)) : OwnO f w lo e (if cap = 1 then A else A.map (·.add 1)) (cap - 1) xs ∧ 1 ≤ cap := by
  rcases h with ⟨_, h, _⟩ | ⟨g, off, cur, rfl, h1, hb, h2, h3, h4, h5⟩
  · cases h
  · simp at h2
    refine ⟨?_, by omega⟩
    by_cases hc : cap = 1
    · subst hc
      rw [if_pos rfl]
      have : xs = [] := List.eq_nil_of_length_eq_zero (by omega)
      subst this
      exact .inr ⟨g, off, cur, rfl, h1, hb, by simp, by omega, by omega, fun i x hx => by simp at hx⟩
    · rw [if_neg hc]
      refine .inr ⟨g, off + 1, cur, by simp [Addr.add], h1, hb, by omega, by omega, by omega, fun i x hx => ?_⟩
      rw [show off + 1 + i = off + (i + 1) by omega]
      exact h5 (i + 1) x (by simpa using hx)

theorem setCells_one (w : World) (b o : Nat) (v : Value) : w.setCells b o [v] = w.setCell ⟨b, o, none⟩ v := by
  simp [World.setCells]

theorem wpList_pushO {P : Program} {ops : Array Oper} {rest : List Oper} {o : Oper} {a : Act} {Q : Exit → Act → World → Prop} (hgd : o.guard = none) (s x : Operand) (t : TypeId)
    (ho : o.op = .call { callee := .builtin .append, args := #[s, x], argTypes := #[t, t] })
    (i : TypeInfo) (z : Value) (bytes : Nat) (ht : P.underlying t = some (.slice e)) (hi : P.info? e = some i) (hz : i.zero = some z) (hsize : i.size = 1) (hby : i.bytes = bytes) (hzs : z.cells.size = 1)
    (hs : a.eval s = .slice A xs.length cap) (hown : OwnO f w lo e A cap xs) (g : Nat) (u : α) (hx : a.eval x = .slice (some ⟨g, 0, none⟩) 1 1) (hu : w.cell? ⟨g, 0, none⟩ = some (f u)) (h1 : (f u).oneCell' = true)
    (hlen : xs.length ≤ 1000000) (hb8 : bytes ≤ 1000) (hlo : lo ≤ w.heap.size)
    (h : ∀ A' cap' w', OwnO f w' lo e A' cap' (xs ++ [u]) → w.grownBy w' (blk A) → (blk A' = blk A ∨ ∀ b, blk A' = some b → w.heap.size ≤ b) → wpList P ops Q rest (a.put o.dst (.slice A' (xs.length + 1) cap')) w') : wpList P ops Q (o :: rest) a w := by
  have hbd : (xs.length + 1) * bytes ≤ 140737488355328 := by
    have h1 := Nat.mul_le_mul (show xs.length + 1 ≤ 1000001 by omega) hb8
    omega
  have hnew : ∀ j v, [f u][j]? = some v → w.cell? ((⟨g, 0, none⟩ : Addr).add j) = some v := by
    intro j v hj
    cases j with
    | zero => simp at hj; subst hj; simpa [Addr.add] using hu
    | succ j => simp at hj
  have hone : ∀ v ∈ [f u], v.oneCell' = true := by intro v hv; simp at hv; subst hv; exact h1
  have hgrow : ∀ v' w', w'.ownsRow w.heap.size e 1 v' (xs.length + 1) (xs.map f ++ [f u]) → w.grownBy w' none → wpList P ops Q rest (a.put o.dst v') w' := by
    intro v' w' h2 h3
    have hv' : ∃ A' cap', v' = .slice A' (xs.length + 1) cap' := by
      rcases h2.2 with ⟨_, hn⟩ | ⟨g', c, cur, hv, _⟩
      · omega
      · exact ⟨_, _, hv⟩
    obtain ⟨A', cap', rfl⟩ := hv'
    have h4 : OwnL f w' w.heap.size e A' cap' (xs ++ [u]) := by unfold OwnL; simpa using h2
    exact h A' cap' w' (h4.mono hlo).o ⟨h3.os, h3.tape, h3.output, h3.size, fun k hk _ => h3.block k hk (by simp)⟩ (.inr fun b hb => (h4.ltb b hb).1)
  rcases hown with ⟨rfl, rfl, rfl⟩ | ⟨g', off, cur, rfl, hg', hb', hn, hm, hsz, hc⟩
  · exact wpList_append_grows w hgd s x t ho e i z 1 bytes ht hi hz hsize hby hzs (by omega) none 0 0 [] hs (fun _ => ⟨rfl, rfl⟩) (by simp) (by intro b hb; cases hb) ⟨g, 0, none⟩ 1 1 [f u] hx (by simp) hnew hone (by omega) (by unfold maxLen; omega) (by simpa using hbd) (by simpa using hgrow)
  · refine wpList_append_arg w hgd s x t ho e i z 1 bytes ht hi hz hsize hby hzs (by omega) g' off xs.length cap (xs.map f) hs (by simp) ?_ ⟨g, 0, none⟩ 1 1 [f u] hx (by simp) hnew hone ?_ (by unfold maxLen; omega) hbd ?_ (fun _ => hgrow)
    · intro j v hj
      rw [List.getElem?_map] at hj
      obtain ⟨y, hy, rfl⟩ := Option.map_eq_some_iff.1 hj
      rw [hb'.cell]
      exact hc j y hy
    · intro hr j hj
      obtain rfl : j = 0 := by simpa using hj
      simp only [Nat.mul_one, Nat.add_zero]
      refine ⟨?_, hb'.frozen _⟩
      rw [hb'.cell]
      simp
      omega
    · intro hr
      rw [setCells_one, Nat.mul_one]
      refine h _ _ _ (.inr ⟨g', off, cur.setIfInBounds (off + xs.length) (f u), rfl, hg', hb'.set_ _ _, by simp; omega, hm, by simpa using hsz, fun j y hy => ?_⟩) (only_set _) (.inl rfl)
      rw [Array.getElem?_setIfInBounds]
      by_cases hj : j < xs.length
      · rw [if_neg (by omega)]
        rw [List.getElem?_append_left hj] at hy
        exact hc j y hy
      · have hj2 : j = xs.length := by
          have := (List.getElem?_eq_some_iff.1 hy).1
          simp at this
          omega
        subst hj2
        rw [if_pos rfl, if_pos (by omega)]
        simp at hy
        rw [hy]
end

/-- make([]T, n), T of one cell. -/
theorem run_make_n {P : Program} (t e : TypeId) (i : TypeInfo) (z : Value) (ht : P.underlying t = some (.slice e)) (hi : P.info? e = some i) (hz : i.zero = some z) (hsize : i.size = 1) (hzs : z.cells = #[z])
    (kl kc : IntKind) (n c : Nat) (hnc : n ≤ c) (hby : i.bytes ≤ 1000) (hc : c ≤ 1000000000) (w : World) :
    (Instr.makeSlice t (.int kl (n : Int)) (.int kc (c : Int))).run P w = .ok (.slice (some ⟨w.heap.size, 0, none⟩) n c) (w.alloc (.cells (List.replicate c z).toArray e)) := by
  have hb0 : i.bytes * c ≤ 1000 * 1000000000 := Nat.mul_le_mul hby hc
  have hb : (i.bytes : Int) * (c : Int) ≤ 281474976710656 := by
    have h : ((i.bytes * c : Nat) : Int) ≤ 281474976710656 := by omega
    rwa [Int.natCast_mul] at h
  have hr := run_make (P := P) w t e i z ht hi hz kl kc n c (by omega) (by omega) hb (by omega)
  simp only [Int.toNat_natCast, hsize, Nat.mul_one, hzs] at hr
  rw [hr]
  have : madeCells #[z] c = (List.replicate c z).toArray := by
    rw [← toList_madeCells_one]
  rw [this]
end Go.Proofs.Ytcckipckgnkieaa
