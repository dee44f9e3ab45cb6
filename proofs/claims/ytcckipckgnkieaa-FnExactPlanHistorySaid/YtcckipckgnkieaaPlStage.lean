/-
  Generated plans: the slice of stages (two cells a stage).
-/
import Derived.Test.YtcckipckgnkieaaPlTab2
import Derived.Maps.AppendAt
import Derived.Laws.OwnMore
namespace Go.Proofs.Ytcckipckgnkieaa
open Go.RowKit
set_option linter.unusedVariables false

abbrev Hd := Option Addr × Nat × Nat × Int
def flatS : List Hd → List Value
  | [] => []
  | q :: qs => .slice q.1 q.2.1 q.2.2.1 :: .int .i64 q.2.2.2 :: flatS qs
theorem flatS_length (qs : List Hd) : (flatS qs).length = qs.length * 2 := by
  induction qs with
  | nil => rfl
  | cons q qs ih => simp [flatS, ih]; omega
theorem flatS_push (qs : List Hd) (q : Hd) : flatS (qs ++ [q]) = flatS qs ++ [.slice q.1 q.2.1 q.2.2.1, .int .i64 q.2.2.2] := by
  induction qs with
  | nil => rfl
  | cons p qs ih => simp [flatS, ih]
theorem flatS_at {qs : List Hd} {k : Nat} {q : Hd} (h : qs[k]? = some q) : (flatS qs)[k * 2]? = some (.slice q.1 q.2.1 q.2.2.1) ∧ (flatS qs)[k * 2 + 1]? = some (.int .i64 q.2.2.2) := by
  induction qs generalizing k with
  | nil => simp at h
  | cons p qs ih =>
    cases k with
    | zero => simp at h; subst h; simp [flatS]
    | succ k =>
      have := ih (k := k) (by simpa using h)
      rw [show (k + 1) * 2 = k * 2 + 2 by omega]
      simpa [flatS] using this
def RowS (w : World) (lo : Nat) (qs : List Hd) (sg : List (List Int × Int)) : Prop :=
  qs.length = sg.length ∧ ∀ (k : Nat) (q : Hd) (s : List Int × Int), qs[k]? = some q → sg[k]? = some s → q.2.1 = s.1.length ∧ q.2.2.2 = s.2 ∧ OwnO fI w lo 3 q.1 q.2.2.1 s.1
abbrev OwnSt (w : World) (lo : Nat) (S : Option Addr) (d : Nat) (qs : List Hd) : Prop := w.ownsRow lo 79 2 (.slice S qs.length d) qs.length (flatS qs)
def OwnPl (w : World) (lo : Nat) (S : Option Addr) (d : Nat) (sg : List (List Int × Int)) : Prop := ∃ qs, OwnSt w lo S d qs ∧ RowS w lo qs sg
section
variable {w w' : World} {lo : Nat} {S : Option Addr} {d : Nat} {qs : List Hd} {sg : List (List Int × Int)}
theorem RowS.grown {row : Option Nat} (h : RowS w lo qs sg) (hg : w.grownBy w' row) (hr : ∀ (k : Nat) (q : Hd) (s : List Int × Int), qs[k]? = some q → sg[k]? = some s → blk q.1 = none ∨ blk q.1 ≠ row) : RowS w' lo qs sg :=
  ⟨h.1, fun k q s hq hs => ⟨(h.2 k q s hq hs).1, (h.2 k q s hq hs).2.1, (h.2 k q s hq hs).2.2.grown hg (hr k q s hq hs)⟩⟩
theorem RowS.old {row : Option Nat} (h : RowS w lo qs sg) (hg : w.grownBy w' row) (hr : ∀ b, row = some b → b < lo) : RowS w' lo qs sg :=
  h.grown hg fun k q s hq hs => by
    have h1 := (h.2 k q s hq hs).2.2
    cases hA : blk q.1 with
    | none => exact .inl rfl
    | some b => exact .inr fun e => by have := (h1.lt b hA).1; have := hr b e.symm; omega
theorem OwnSt.lt (h : OwnSt w lo S d qs) : ∀ b, blk S = some b → lo ≤ b ∧ b < w.heap.size := fun b hb => World.ownsRow.lt h b (by rw [ownBlock_slice]; exact hb)
theorem OwnSt.grown {row : Option Nat} (h : OwnSt w lo S d qs) (hg : w.grownBy w' row) (hne : blk S = none ∨ blk S ≠ row) : OwnSt w' lo S d qs :=
  World.ownsRow.kept h hg (by rw [ownBlock_slice]; exact hne)
theorem OwnSt.old {row : Option Nat} (h : OwnSt w lo S d qs) (hg : w.grownBy w' row) (hr : ∀ b, row = some b → b < lo) : OwnSt w' lo S d qs :=
  h.grown hg (by
    cases hS : blk S with
    | none => exact .inl rfl
    | some b => exact .inr fun e => by have := (OwnSt.lt h b hS).1; have := hr b e.symm; omega)
theorem OwnPl.old {row : Option Nat} (h : OwnPl w lo S d sg) (hg : w.grownBy w' row) (hr : ∀ b, row = some b → b < lo) : OwnPl w' lo S d sg := by
  obtain ⟨qs, h1, h2⟩ := h
  exact ⟨qs, OwnSt.old h1 hg hr, h2.old hg hr⟩
theorem OwnPl.below (h : OwnPl w lo S d sg) (hb : Below w.heap.size w w') : OwnPl w' lo S d sg := h.old (only_of_below hb none) (fun b e => by cases e)
theorem OwnSt.some (h : OwnSt w lo S d qs) (hn : 0 < qs.length) : ∃ g cur, S = some ⟨g, 0, none⟩ ∧ lo ≤ g ∧ Blk w g 79 cur ∧ qs.length ≤ d := by
  rcases h.2 with ⟨_, h0⟩ | ⟨g, cap, cur, hv, hl, hb, hc, _⟩
  · omega
  · injection hv with e1 e2 e3
    subst e3
    exact ⟨g, cur, e1, hl, hb, hc⟩
theorem OwnSt.sep {A : Option Addr} {c lo' : Nat} {xs : List Int} (h : OwnSt w lo S d qs) (h' : OwnO fI w lo' 3 A c xs) : blk A = none ∨ blk A ≠ blk S := by
  rcases h' with ⟨rfl, _⟩ | ⟨g, o, cur, rfl, _, hb, _⟩
  · exact .inl rfl
  refine .inr fun e => ?_
  rcases h.2 with ⟨h1, _⟩ | ⟨g2, cap, cur2, hv, _, hb2, _⟩
  · injection h1 with h1
    subst h1
    simp at e
  · injection hv with h1
    subst h1
    simp at e
    subst e
    unfold Blk at hb
    rw [hb] at hb2
    injection hb2 with e
    injection e with _ e2
    exact absurd e2 (by decide)
theorem RowS.snoc {A : Option Addr} {c : Nat} {xs : List Int} (h : RowS w lo qs sg) (ho : OwnO fI w lo 3 A c xs) (g : Int) : RowS w lo (qs ++ [(A, xs.length, c, g)]) (sg ++ [(xs, g)]) := by
  refine ⟨by simp [h.1], fun k q s hq hs => ?_⟩
  have hl := h.1
  by_cases e : k < qs.length
  · rw [List.getElem?_append_left e] at hq
    rw [List.getElem?_append_left (by omega)] at hs
    exact h.2 k q s hq hs
  · rw [List.getElem?_append_right (by omega)] at hq
    rw [List.getElem?_append_right (by omega)] at hs
    by_cases e2 : k = qs.length
    · subst e2
      rw [Nat.sub_self] at hq
      rw [hl, Nat.sub_self] at hs
      simp at hq hs
      subst hq hs
      exact ⟨rfl, rfl, ho⟩
    · obtain ⟨i, hi⟩ : ∃ i, k - qs.length = i + 1 := ⟨k - qs.length - 1, by omega⟩
      rw [hi] at hq
      simp at hq
theorem OwnPl.rdp (h : OwnPl w lo S d sg) {T : Option Addr} {t : List (List Int)} (ht : RdSS fI w T t) : RdP w T S ⟨t, sg⟩ := by
  obtain ⟨qs, h1, h2⟩ := h
  refine ⟨ht, fun i hi => ?_⟩
  replace hi : i < sg.length := hi
  have hq : i < qs.length := by rw [h2.1]; exact hi
  obtain ⟨g, cur, rfl, hl, hb, hc⟩ := OwnSt.some h1 (by omega)
  obtain ⟨e1, e2, h3⟩ := h2.2 i qs[i] sg[i] (List.getElem?_eq_getElem hq) (List.getElem?_eq_getElem hi)
  obtain ⟨f1, f2⟩ := flatS_at (List.getElem?_eq_getElem hq)
  have hp : ph ⟨t, sg⟩ i = sg[i].1 := by simp [ph, hi]
  have hg : gr ⟨t, sg⟩ i = sg[i].2 := by simp [gr, hi]
  refine ⟨g, 0, qs[i].1, qs[i].2.2.1, rfl, ?_, ?_, by rw [hp]; exact h3.rd, ?_⟩
  · rw [Nat.zero_add, World.ownsRow.cellAt h1 (i * 2) (by omega), f1, hp, e1]
  · rw [Nat.zero_add, World.ownsRow.cellAt h1 (i * 2 + 1) (by omega), f2, hg, e2]
  · rw [hp]
    rcases h3 with ⟨_, h, _⟩ | ⟨_, _, _, _, _, _, h, _⟩
    · rw [h]; simp
    · exact h
end
theorem wpList_pushS {P : Program} {ops : Array Oper} {rest : List Oper} {o : Oper} {a : Act} {w : World} {Q : Exit → Act → World → Prop} {S : Option Addr} {d lo : Nat} {qs : List Hd} (hgd : o.guard = none) (s x : Operand) (t : TypeId)
    (ho : o.op = .call { callee := .builtin .append, args := #[s, x], argTypes := #[t, t] })
    (i : TypeInfo) (z : Value) (bytes : Nat) (ht : P.underlying t = some (.slice 79)) (hi : P.info? 79 = some i) (hz : i.zero = some z) (hsize : i.size = 2) (hby : i.bytes = bytes) (hzs : z.cells.size = 2)
    (hs : a.eval s = .slice S qs.length d) (hown : OwnSt w lo S d qs) (g : Nat) (q : Hd) (hx : a.eval x = .slice (some ⟨g, 0, none⟩) 1 1) (h0 : w.cell? ⟨g, 0, none⟩ = some (.slice q.1 q.2.1 q.2.2.1)) (h1 : w.cell? ⟨g, 1, none⟩ = some (.int .i64 q.2.2.2))
    (hlen : qs.length ≤ 1000000) (hb8 : bytes ≤ 1000) (hlo : lo ≤ w.heap.size)
    (h : ∀ S' d' w', OwnSt w' lo S' d' (qs ++ [q]) → w.grownBy w' (blk S) → wpList P ops Q rest (a.put o.dst (.slice S' (qs.length + 1) d')) w') : wpList P ops Q (o :: rest) a w := by
  refine Go.wpList_append_own_at w hgd s x t ho lo 79 i z 2 bytes ht hi hz hsize hby hzs (by omega) (.slice S qs.length d) qs.length (flatS qs) hs hown ⟨g, 0, none⟩ 1 1 [.slice q.1 q.2.1 q.2.2.1, .int .i64 q.2.2.2] hx rfl ?_ ?_ (by unfold maxLen; omega) ?_ hlo ?_
  · intro j u hj
    cases j with
    | zero => simp at hj; subst hj; simpa [Addr.add] using h0
    | succ j =>
      cases j with
      | zero => simp at hj; subst hj; simpa [Addr.add] using h1
      | succ j => simp at hj
  · intro u hu
    simp at hu
    rcases hu with rfl | rfl <;> rfl
  · have := Nat.mul_le_mul (show qs.length + 1 ≤ 1000001 by omega) hb8
    omega
  · intro v' w' h2 h3 _ _
    have hv' : ∃ S' d', v' = .slice S' (qs.length + 1) d' := by
      rcases h2.2 with ⟨_, hn⟩ | ⟨g', c, cur, hv, _⟩
      · omega
      · exact ⟨_, _, hv⟩
    obtain ⟨S', d', rfl⟩ := hv'
    rw [ownBlock_slice] at h3
    refine h S' d' w' ?_ h3
    unfold OwnSt
    rw [flatS_push, List.length_append]
    exact h2
theorem info_Stage : (Try.prog.info? 79).map (fun i => (i.zero, i.size, i.bytes)) = some (some (Value.agg #[.slice none 0 0, .int .i64 0]), 2, 32) := by kernel_rfl
end Go.Proofs.Ytcckipckgnkieaa
