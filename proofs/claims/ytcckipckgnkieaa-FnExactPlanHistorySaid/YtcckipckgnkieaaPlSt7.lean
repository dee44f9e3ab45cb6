/-
  Plans as data: what the statement's walk needs.
-/
import Derived.Test.YtcckipckgnkieaaPlSt6
import Derived.Test.YtcckipckgnkieaaPlHistD
import Derived.Test.YtcckipckgnkieaaPlImp8
namespace Go.Proofs.Ytcckipckgnkieaa
open Go.RowKit
set_option linter.unusedVariables false

theorem held_pl {S : World → Prop} {g : Nat} {t : TypeId} {p : Pl} {C R : Option Addr} {c d : Nat} (h : ∀ x, S x → Blk x g t (plC p C c R d)) :
    (∀ y : Held S, y.x.cell? ⟨g, 0, none⟩ = some (.slice C p.tb.length c)) ∧ (∀ y : Held S, y.x.cell? ⟨g, 1, none⟩ = some (.slice R p.sg.length d)) :=
  ⟨fun y => (h y.x y.h).cell 0, fun y => (h y.x y.h).cell 1⟩
theorem box_pl {w : World} {g : Nat} {t : TypeId} {p : Pl} {C R : Option Addr} {c d : Nat} (h : Blk w g t (plC p C c R d)) :
    w.cell? ⟨g, 0, none⟩ = some (.slice C p.tb.length c) ∧ w.cell? ⟨g, 1, none⟩ = some (.slice R p.sg.length d) :=
  ⟨h.cell 0, h.cell 1⟩
theorem sHist_v (p : Pl) (f n : Int) (r : List (List Int)) (hr0 : Hid (r = planF p f n)) (T S : Option Addr) (c d : Nat) (w : World) (hr : RdP w T S p) (hs : SmP p 1000000000) :
    Calls Try.prog 14 #[plV p T c S d, .int .i64 f, .int .i64 n] w (NewG fI 32 3 w r) := by
  rw [hr0.out]
  exact sHist_any p f n T S c d w hr hs
theorem iHist_v (p : Pl) (f n : Int) (r : List (List Int)) (hr0 : Hid (r = planF p f n)) (T S : Option Addr) (c d : Nat) (w : World) (hr : RdP w T S p) (hs : SmP p 1000000000) (hsd : p.sg.length ≤ d) :
    Calls Try.prog 12 #[plV p T c S d, .int .i64 f, .int .i64 n] w (NewG fI 32 3 w r) := by
  rw [hr0.out]
  exact iHist_any p f n T S c d w hr hs hsd
theorem tot_bd {css : List (List Int)} {m : Nat} (h : ∀ k, k < css.length → (gm css k).length ≤ m) : tot css ≤ css.length * m := by
  have : ∀ n, n ≤ css.length → tot (css.take n) ≤ n * m := by
    intro n
    induction n with
    | zero => intro _; simp [tot]
    | succ n ih =>
      intro hn
      rw [tot_take css (k := n) (by omega)]
      have h1 := ih (by omega)
      have h2 := h n (by omega)
      rw [← gm_at (by omega)] at h2
      rw [Nat.succ_mul]
      omega
  have := this css.length (Nat.le_refl _)
  rwa [List.take_length] at this
theorem planF_bd (p : Pl) (f n : Int) : (planF p f n).length ≤ 150 ∧ tot (planF p f n) ≤ 1200 := by
  obtain ⟨h1, h2⟩ := planF_sm p f n
  have := tot_bd h2
  exact ⟨h1, Nat.le_trans this (by omega)⟩
theorem totP_mem (p : Pl) {k : Nat} (h : k < p.sg.length) : (ph p k).length ≤ totP p p.sg.length := by
  have h1 := totP_mono p (show k + 1 ≤ p.sg.length from h)
  have h2 : totP p (k + 1) = totP p k + (ph p k).length := rfl
  omega
end Go.Proofs.Ytcckipckgnkieaa
