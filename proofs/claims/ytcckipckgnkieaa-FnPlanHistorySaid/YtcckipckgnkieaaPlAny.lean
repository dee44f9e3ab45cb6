/-
  Generated plans that may be invalid.
-/
import Derived.Test.YtcckipckgnkieaaPlPlanD
namespace Go.Proofs.Ytcckipckgnkieaa
open Go.RowKit
set_option linter.unusedVariables false

theorem or_rbP {A : Option Addr} {rb : Nat} (h : ∀ b, blk A = some b → b ≠ rb) : blk A = none ∨ blk A ≠ some rb := by
  cases hA : blk A with
  | none => exact .inl rfl
  | some b => exact .inr fun e => h b hA (by injection e)
theorem blk_type {w : World} {g g' : Nat} {T T' : TypeId} {cs cs' : Array Value} (h : Blk w g T cs) (h' : Blk w g' T' cs') (hne : T ≠ T') : g ≠ g' := by
  rintro rfl
  unfold Blk at h h'
  rw [h] at h'
  injection h' with e
  injection e with _ e2
  exact hne e2
theorem OwnPl.far {w w' : World} {lo gp : Nat} {S : Option Addr} {d : Nat} {sg : List (List Int × Int)} {cs : Array Value} (h : OwnPl w lo S d sg) (hb : Blk w gp 26 cs) (hg : w.grownBy w' (some gp)) : OwnPl w' lo S d sg := by
  obtain ⟨qs, h1, h2⟩ := h
  refine ⟨qs, OwnSt.grown h1 hg ?_, h2.grown hg fun k q s hq hs => or_rbP (neT (h2.2 k q s hq hs).2.2 hb (by decide))⟩
  rcases h1.2 with ⟨e, _⟩ | ⟨g2, cap, cur2, hv, _, hb2, _⟩
  · injection e with e
    subst e
    exact .inl rfl
  · injection hv with e
    subst e
    exact .inr fun e => by injection e with e; exact blk_type (show Blk w g2 79 cur2 from hb2) hb (by decide) e
theorem OwnPl.put0 {w : World} {lo : Nat} {S : Option Addr} {d : Nat} {s : List Int × Int} {sg : List (List Int × Int)} (h : OwnPl w lo S d (s :: sg)) :
    ∃ g, S = some ⟨g, 0, none⟩ ∧ lo ≤ g ∧ g < w.heap.size ∧ (∃ cur, Blk w g 79 cur) ∧ (∃ z, w.cell? ⟨g, 0, none⟩ = some z) ∧ (∃ z, w.cell? ⟨g, 1, none⟩ = some z) ∧ w.frozen? ⟨g, 0, none⟩ = false ∧ w.frozen? ⟨g, 1, none⟩ = false ∧
      (∀ x, OwnPl (w.setCell ⟨g, 1, none⟩ (.int .i64 x)) lo S d ((s.1, x) :: sg)) ∧ ∀ A n (xs : List Int), OwnO fI w lo 3 A n xs → OwnPl (w.setCell ⟨g, 0, none⟩ (.slice A xs.length n)) lo S d ((xs, s.2) :: sg) := by
  obtain ⟨qs, h1, h2⟩ := h
  cases qs with
  | nil => have := h2.1; simp at this
  | cons q qs =>
  obtain ⟨g, cur, rfl, hl, hb, hc⟩ := OwnSt.some h1 (by simp)
  have h0 := World.ownsRow.cellAt h1 0 (by simp)
  have h3 := World.ownsRow.cellAt h1 1 (by simp; omega)
  have hrow := h2.2 0 q s (by simp) (by simp)
  have htl : ∀ (w2 : World) (u : Value) (j : Nat), w2 = w.setCell ⟨g, j, none⟩ u → ∀ (k : Nat) (q' : Hd) (s' : List Int × Int), qs[k]? = some q' → sg[k]? = some s' → q'.2.1 = s'.1.length ∧ q'.2.2.2 = s'.2 ∧ OwnO fI w2 lo 3 q'.1 q'.2.2.1 s'.1 := fun w2 u j e k q' s' hq hs => by
    obtain ⟨r1, r2, r3⟩ := h2.2 (k + 1) q' s' (by simpa using hq) (by simpa using hs)
    subst e
    exact ⟨r1, r2, r3.grown (only_set (w := w) (g := g) (k := j) u) (OwnSt.sep h1 r3)⟩
  have hlen := h2.1
  refine ⟨g, rfl, hl, hb.lt, ⟨_, hb⟩, ⟨_, h0⟩, ⟨_, h3⟩, World.ownsRow.frozenAt h1 0, World.ownsRow.frozenAt h1 1, fun x => ?_, fun A n xs ho => ?_⟩
  · refine ⟨(q.1, q.2.1, q.2.2.1, x) :: qs, ?_, by simpa using hlen, fun k q' s' hq hs => ?_⟩
    · exact (World.ownsRow.stored h1 1 (.int .i64 x)).1
    · cases k with
      | zero =>
        simp at hq hs
        subst hq hs
        exact ⟨hrow.1, rfl, hrow.2.2.grown (only_set (w := w) (g := g) (k := 1) _) (OwnSt.sep h1 hrow.2.2)⟩
      | succ k => exact htl _ (.int .i64 x) 1 rfl k q' s' (by simpa using hq) (by simpa using hs)
  · refine ⟨(A, xs.length, n, q.2.2.2) :: qs, ?_, by simpa using hlen, fun k q' s' hq hs => ?_⟩
    · exact (World.ownsRow.stored h1 0 (.slice A xs.length n)).1
    · cases k with
      | zero =>
        simp at hq hs
        subst hq hs
        exact ⟨rfl, hrow.2.1, ho.grown (only_set (w := w) (g := g) (k := 0) _) (OwnSt.sep h1 ho)⟩
      | succ k => exact htl _ (.slice A xs.length n) 0 rfl k q' s' (by simpa using hq) (by simpa using hs)

set_option maxHeartbeats 800000 in
theorem anyPhase_any (t : List (List Int)) (T : Option Addr) (c rb M : Nat) (w : World) (hr : RdSS fI w T t) (hg : GoodC t) (hd : Rdr w rb M) (hM : M ≤ 700000000) :
    Calls Try.prog 67 #[.pointer (some ⟨rb, 0, none⟩), .slice T t.length c] w (DrawL fI 3 w rb (M + 12) fun xs => xs.length ≤ 9) := by
  have hn8 := hg.n2
  have hrb := hd.lt
  go_enter Try.func67, Try.ntmps67
  go_wp2_with fail
  refine (sValC_v t true (dec_iff.mpr hg) T c _ hr (by omega) (fun k hk => by rw [hg.rl k hk]; omega)).mono ?_
  rintro e w1 ⟨rfl, v1⟩
  have hr1 := hr.below v1
  have hd1 := hd.below v1 hrb
  have G1 := only_of_below v1 (some rb)
  clear hr hd v1
  have Hg := Lib.hid hg
  clear hg
  go_wp2_with fail
  refine (randomPhase_any t T c rb M _ hr1 Hg.out hd1 (by omega)).mono ?_
  rintro e w2 ⟨xs, A, c1, rfl, ho, hxl, hd2, hg2⟩
  have G2 := only_trans G1 hg2
  have hz1 := G1.size
  have hz2 := G2.size
  clear hr1 hd1 G1 hg2
  go_wp2_with fail
  refine (spoil_any _ rb _ xs A c1 8 hd2 (by omega) ho.rd (by omega)).mono ?_
  rintro e w3 ⟨ys, A3, c3, rfl, ho3, hyl, hd3, hg3⟩
  have G3 := only_trans G2 hg3
  go_wp2_with fail
  go_ret
  exact ⟨ys, A3, c3, rfl, ho3.mono hz2, by omega, hd3.mono (by omega), G3⟩

theorem anySecond_any (w : World) (rb M : Nat) (hr : Rdr w rb M) (hM : M ≤ 900000000) :
    Calls Try.prog 34 #[.pointer (some ⟨rb, 0, none⟩)] w fun e w' => ∃ x : Int, e = .returned (.int .i64 x) ∧ -1 ≤ x ∧ x ≤ 10000 ∧ Rdr w' rb (M + 1) ∧ w.grownBy w' (some rb) := by
  have hlt := hr.lt
  go_enter Try.func34, Try.ntmps34
  go_wp2_with fail
  refine (one_any _ rb M _ 10 _ [0, 7, 13, 20, 31, 50, 100, 9999, 10000, -1] (hr.alloc _) (by omega) (Blk.new _ _ _) (by omega) rfl (by omega) (by omega)).mono ?_
  rintro e w5 ⟨x, rfl, hx, hr5, hg5⟩
  have hx : -1 ≤ x ∧ x ≤ 10000 := by simp at hx; omega
  have G := only_trans (only_alloc (only_refl w (some rb)) _) hg5
  clear hg5
  go_wp2_with fail
  go_ret
  exact ⟨x, rfl, hx.1, hx.2, hr5, G⟩
end Go.Proofs.Ytcckipckgnkieaa
