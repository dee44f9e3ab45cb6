/-
  Slices of stages as data: copies.
-/
import Derived.Test.YtcckipckgnkieaaPlSt3
namespace Go.Proofs.Ytcckipckgnkieaa
open Go.RowKit
set_option linter.unusedVariables false

theorem flat_fill (qs : List Hd) (q : Hd) (r0 r1 : Value) (rest : List Value) :
    ((flatS qs ++ r0 :: r1 :: rest).set (qs.length * 2) (.slice q.1 q.2.1 q.2.2.1)).set (qs.length * 2 + 1) (.int .i64 q.2.2.2) = flatS (qs ++ [q]) ++ rest := by
  have h := flatS_length qs
  rw [List.set_append_right _ _ (by omega), h, Nat.sub_self, List.set_cons_zero, List.set_append_right _ _ (by omega), h, show qs.length * 2 + 1 - qs.length * 2 = 1 by omega, List.set_cons_succ, List.set_cons_zero, flatS_push]
  simp
theorem take_sg {sg : List (List Int × Int)} {k : Nat} (h : k < sg.length) : sg.take (k + 1) = sg.take k ++ [sg[k]] := List.take_succ_eq_append_getElem h
def hd3 (q : Hd) : Option Addr × Nat × Nat := (q.1, q.2.1, q.2.2.1)
/-- The stages of a copy: each phase in a block of its own, from lo to hi. -/
def RowsH (w : World) (lo hi : Nat) (qs : List Hd) (sg : List (List Int × Int)) : Prop :=
  RowsG fI 3 w lo hi (qs.map hd3) (sg.map (·.1)) ∧ qs.map (fun q => q.2.2.2) = sg.map (·.2)
theorem RowsH.len {w : World} {lo hi : Nat} {qs : List Hd} {sg : List (List Int × Int)} (h : RowsH w lo hi qs sg) : qs.length = sg.length := by simpa using h.1.1
theorem RowsH.rows {w : World} {lo hi : Nat} {qs : List Hd} {sg : List (List Int × Int)} (h : RowsH w lo hi qs sg) : RowS w lo qs sg := by
  refine ⟨h.len, fun k q s hq hs => ?_⟩
  obtain ⟨h1, h2, -⟩ := h.1.2.1 k (hd3 q) s.1 (by simp [hq]) (by simp [hs])
  refine ⟨h1, ?_, h2⟩
  have h3 := congrArg (fun l => l[k]?) h.2
  simp [hq, hs] at h3
  exact h3
theorem RowsH.below {w w' : World} {lo hi : Nat} {qs : List Hd} {sg : List (List Int × Int)} (h : RowsH w lo hi qs sg) (hb : Below w.heap.size w w') : RowsH w' lo hi qs sg := ⟨h.1.below hb, h.2⟩
theorem RowsH.mono {w : World} {lo hi hi' : Nat} {qs : List Hd} {sg : List (List Int × Int)} (h : RowsH w lo hi qs sg) (hh : hi ≤ hi') : RowsH w lo hi' qs sg := ⟨h.1.mono hh, h.2⟩
theorem RowsH.snoc {w : World} {lo hi hi' : Nat} {qs : List Hd} {sg : List (List Int × Int)} {A : Option Addr} {c : Nat} {xs : List Int} (h : RowsH w lo hi qs sg) (g : Int) (ho : OwnO fI w lo 3 A c xs) (hA : ∀ b, blk A = some b → hi ≤ b ∧ b < hi') (hh : hi ≤ hi') : RowsH w lo hi' (qs ++ [(A, xs.length, c, g)]) (sg ++ [(xs, g)]) := by
  refine ⟨?_, by simp [h.2]⟩
  have := h.1.snoc ho hA hh
  simpa [hd3] using this
/-- No phase lies in the block of the stages. -/
theorem RowsH.sep {w : World} {lo hi lo' g n cap : Nat} {L : List Value} {qs : List Hd} {sg : List (List Int × Int)} (h : RowsH w lo hi qs sg) (hst : w.ownsRow lo' 79 2 (.slice (some ⟨g, 0, none⟩) n cap) n L) {k : Nat} {q : Hd} (hq : qs[k]? = some q) : blk q.1 = none ∨ blk q.1 ≠ some g := by
  have hk : k < qs.length := (List.getElem?_eq_some_iff.1 hq).1
  obtain ⟨-, h2, -⟩ := h.1.2.1 k (hd3 q) (sg[k]'(by rw [← h.len]; exact hk)).1 (by simp [hq]) (by simp [← h.len, hk])
  rcases h2 with ⟨e, _⟩ | ⟨g1, o1, cur, e, _, hb, _⟩
  · left
    have e' : q.1 = none := e
    rw [e']
    rfl
  · right
    have e' : q.1 = some ⟨g1, o1, none⟩ := e
    rw [e']
    intro e2
    have e3 : g1 = g := by simpa using e2
    subst e3
    rcases hst.2 with ⟨h1, _⟩ | ⟨g2, cap2, cur2, hv, _, hb2, _⟩
    · simp at h1
    · injection hv with e4
      injection e4 with e4
      injection e4 with e4
      subst e4
      unfold Blk at hb
      rw [hb] at hb2
      injection hb2 with e
      injection e with _ e2
      exact absurd e2 (by decide)
theorem RowsH.grown {w w' : World} {lo hi g : Nat} {qs : List Hd} {sg : List (List Int × Int)} (h : RowsH w lo hi qs sg) (hg : w.grownBy w' (some g)) (hne : ∀ (k : Nat) (q : Hd), qs[k]? = some q → blk q.1 = none ∨ blk q.1 ≠ some g) : RowsH w' lo hi qs sg := by
  refine ⟨h.1.grown hg fun k p hp => ?_, h.2⟩
  rw [List.getElem?_map] at hp
  cases hq : qs[k]? with
  | none => rw [hq] at hp; simp at hp
  | some q => rw [hq] at hp; simp at hp; subst hp; exact hne k q hq
/-- A copy of a slice of stages, all its blocks from lo to hi. -/
def OwnH (w : World) (lo hi : Nat) (S : Option Addr) (d : Nat) (sg : List (List Int × Int)) : Prop :=
  ∃ qs, OwnSt w lo S d qs ∧ (∀ b, blk S = some b → b < hi) ∧ RowsH w lo hi qs sg
theorem OwnH.pl {w : World} {lo hi : Nat} {S : Option Addr} {d : Nat} {sg : List (List Int × Int)} (h : OwnH w lo hi S d sg) : OwnPl w lo S d sg := by
  obtain ⟨qs, h1, _, h2⟩ := h
  exact ⟨qs, h1, h2.rows⟩
set_option maxRecDepth 100000 in
set_option maxHeartbeats 1600000 in
theorem toStageS_any (p : Pl) (S : Option Addr) (c : Nat) (w : World) (hr : RdG w S p) (hn : p.sg.length ≤ 1048576) (hl : ∀ k, k < p.sg.length → (ph p k).length ≤ 1048576) :
    Calls Try.prog 47 #[.slice S p.sg.length c] w fun e w' => (∃ R d, e = .returned (.slice R p.sg.length d) ∧ p.sg.length ≤ d ∧ OwnH w' w.heap.size w'.heap.size R d p.sg) ∧ Below w.heap.size w w' := by
  obtain ⟨i0, hi0, hz0, hz1, hz2⟩ := info_parts info_Stage
  obtain ⟨cs, hcs⟩ : ∃ cs : Array Value, cs = madeCells #[.slice none 0 0, .int .i64 0] (p.sg.length * 2) := ⟨_, rfl⟩
  have hcsz : cs.size = p.sg.length * 2 := by rw [hcs, size_madeCells]
  have hmk : ∀ W, (Instr.makeSlice 24 (.int .i64 (p.sg.length : Int)) (.int .i64 (p.sg.length : Int))).run Try.prog W = .ok (.slice (some ⟨W.heap.size, 0, none⟩) p.sg.length p.sg.length) (W.alloc (.cells cs 79)) := fun W => by
    have := run_make (P := Try.prog) W 24 79 i0 (Value.agg #[.slice none 0 0, .int .i64 0]) Try.underlying24 hi0 hz0 .i64 .i64 (p.sg.length : Int) (p.sg.length : Int) (by omega) (by omega) (by rw [hz2]; omega) (by omega)
    rw [this, hz1, hcs]
    rfl
  have hst := World.ownsRow_lit (base := w.heap.size) (e := 79) (size := 2) w cs p.sg.length (Nat.le_refl _) (by simp [maxLen]; omega) hcsz
  have hB := (Below.refl w.heap.size w).alloc (Nat.le_refl _) (.cells cs 79)
  have hclen : cs.toList.length = p.sg.length * 2 := by simpa using hcsz
  have hgl : w.heap.size < (w.alloc (.cells cs 79)).heap.size := by simp
  generalize cs.toList = rest0 at *
  clear hcs hcsz
  go_enter Try.func47, Try.ntmps47
  go_wp2_with fail
  clear hmk
  generalize w.alloc (.cells cs 79) = w1 at *
  go_loopw [4] (fun vi wr => ∃ k : Nat, k ≤ p.sg.length ∧ vi = .int .i64 k ∧ (∃ qs rest, wr.ownsRow w.heap.size 79 2 (.slice (some ⟨w.heap.size, 0, none⟩) p.sg.length p.sg.length) p.sg.length (flatS qs ++ rest) ∧ RowsH wr w.heap.size wr.heap.size qs (p.sg.take k)) ∧ Below w.heap.size w wr ∧ w.heap.size < wr.heap.size) (fun vi _ => p.sg.length - (intOf vi).toNat)
  case atStart => exact ⟨0, Nat.zero_le _, rfl, ⟨[], rest0, hst, RowsG.nil _ _ _ _ _, rfl⟩, hB, hgl⟩
  case round =>
    clear hst hB hclen hgl
    obtain ⟨k, hk, rfl, ⟨qs, rest, hst, hR⟩, hB, hgl⟩ := hrel
    have hql : qs.length = k := by rw [hR.len, List.length_take]; omega
    have Hql := Lib.hid hql
    have hlen := hst.1
    rw [List.length_append, flatS_length, hql] at hlen
    have Hlen := Lib.hid hlen
    clear hql hlen
    by_cases hlt : k < p.sg.length
    · obtain ⟨b, o, A, c1, rfl, e1, e2, e3⟩ := hr.go (w' := w) hlt
      have q1 := (hB.cell (World.block_lt_of_cell? w _ e1)).trans e1
      have q2 := (hB.cell (World.block_lt_of_cell? w _ e2)).trans e2
      have hct := toStage_any (ph p k) (gr p k) A c1 wr (e3.below hB) (hl k hlt)
      have Htk := Lib.hid (show p.sg.take (k + 1) = p.sg.take k ++ [(ph p k, gr p k)] by rw [take_sg hlt, sg_at hlt])
      obtain ⟨r0, r1, rest', hrest⟩ : ∃ r0 r1 rest', rest = r0 :: r1 :: rest' := by
        have := Hlen.out
        match rest, this with
        | [], h => simp at h; omega
        | [_], h => simp at h; omega
        | a :: b :: l, _ => exact ⟨a, b, l, rfl⟩
      subst hrest
      clear e1 e2 e3
      go_wp2_with fail
      refine hct.mono ?_
      rintro e w5 ⟨A5, c5, rfl, ho5, v5⟩
      have hB5 := hB.trans (v5.mono hB.size)
      have hst5 : w5.ownsRow w.heap.size 79 2 (.slice (some ⟨w.heap.size, 0, none⟩) p.sg.length p.sg.length) p.sg.length (flatS qs ++ r0 :: r1 :: rest') := World.ownsRow.kept hst (only_of_below v5 none) (by rw [ownBlock_slice]; right; simp)
      have hR5 := (hR.below v5).snoc (hi' := w5.heap.size) (gr p k) (ho5.mono hB.size) (fun b hb => ho5.lt b hb) v5.size
      have hx0 := World.ownsRow.cellAt hst5 (k * 2) (by omega)
      have hx1 := World.ownsRow.cellAt hst5 (k * 2 + 1) (by omega)
      have hfz := World.ownsRow.frozenAt hst5 (k * 2)
      have hfz1 := World.ownsRow.frozenAt hst5 (k * 2 + 1)
      have hfl := flatS_length qs
      rw [Hql.out] at hfl
      rw [List.getElem?_append_right (by omega), hfl, Nat.sub_self] at hx0
      rw [List.getElem?_append_right (by omega), hfl, show k * 2 + 1 - k * 2 = 1 by omega] at hx1
      simp at hx0 hx1
      have Hst := Lib.hid hst5
      have HR := Lib.hid hR5
      have HB := Lib.hid hB5
      have hgl5 : w.heap.size < w5.heap.size := Nat.lt_of_lt_of_le hgl v5.size
      obtain ⟨s1, g1⟩ := World.ownsRow.stored hst5 (k * 2) (.slice A5 (ph p k).length c5)
      obtain ⟨s2, g2⟩ := World.ownsRow.stored s1 (k * 2 + 1) (.int .i64 (gr p k))
      have hff := flat_fill qs (A5, (ph p k).length, c5, gr p k) r0 r1 rest'
      rw [Hql.out] at hff
      simp only at hff
      rw [hff] at s2
      have hsp := fun (j : Nat) (q : Hd) (hq : (qs ++ [(A5, (ph p k).length, c5, gr p k)])[j]? = some q) => hR5.sep hst5 hq
      have HS2 := Lib.hid s2
      have HR2 := Lib.hid ((hR5.grown g1 hsp).grown g2 hsp)
      have HB2 := Lib.hid ((hB5.setCell (p := ⟨w.heap.size, k * 2, none⟩) (Nat.le_refl _) (.slice A5 (ph p k).length c5)).setCell (p := ⟨w.heap.size, k * 2 + 1, none⟩) (Nat.le_refl _) (.int .i64 (gr p k)))
      clear hct hst hR hB v5 hst5 hR5 hB5 ho5 hfl q1 q2 s1 s2 g1 g2 hff hsp Hst HR HB
      go_wp2_with fail
      go_roundw
      case rel => exact ⟨k + 1, by omega, by go_num, ⟨_, rest', HS2.out, by rw [Htk.out]; exact HR2.out.mono (by simp)⟩, HB2.out, by simpa using hgl5⟩
      case measure => simp [intOf]; omega
    · obtain rfl : k = p.sg.length := by omega
      have hnil : rest = [] := List.eq_nil_of_length_eq_zero (by have := Hlen.out; omega)
      subst hnil
      rw [List.append_nil] at hst
      rw [List.take_length] at hR
      have hst2 : OwnSt wr w.heap.size (some ⟨w.heap.size, 0, none⟩) p.sg.length qs := by unfold OwnSt; rw [Hql.out]; exact hst
      go_wp2_with fail
      go_ret
      exact ⟨⟨_, _, rfl, Nat.le_refl _, qs, hst2, fun b hb => by simp at hb; omega, hR⟩, hB⟩
end Go.Proofs.Ytcckipckgnkieaa
