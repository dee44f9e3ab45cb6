/-
  One second of a controller: the program's.
-/
import Derived.Test.YtkppjngpllmpfaaAcStepS
import Derived.BigRegion
namespace Go.Proofs.Ytkppjngpllmpfaa
open Go.RowKit
set_option linter.unusedVariables false

/-- Only block g and the block of A may have turned. -/
structure Two (g : Nat) (A : Option Addr) (w w' : World) : Prop where
  os : w'.os = w.os
  tape : w'.tape = w.tape
  output : w'.output = w.output
  size : w.heap.size ≤ w'.heap.size
  block : ∀ i, i < w.heap.size → i ≠ g → some i ≠ blk A → w'.heap[i]? = w.heap[i]?
section
variable {g : Nat} {A : Option Addr} {w w' : World}
theorem Two.refl (g : Nat) (A : Option Addr) (w : World) : Two g A w w := ⟨rfl, rfl, rfl, Nat.le_refl _, fun _ _ _ _ => rfl⟩
theorem Two.setCell (h : Two g A w w') {p : Addr} (hp : p.block = g ∨ blk A = some p.block) (u : Value) : Two g A w (w'.setCell p u) :=
  ⟨h.os, h.tape, h.output, by simpa [World.setCell] using h.size, fun i hi h1 h2 => (Below.heap_setCell w' p u i (by
    rintro rfl
    rcases hp with hp | hp
    · exact h1 hp
    · exact h2 hp.symm)).trans (h.block i hi h1 h2)⟩
theorem Two.drew (h : Two g A w w') : Two g A w w'.drew := ⟨h.os, h.tape, h.output, h.size, h.block⟩
theorem Two.drewN (h : Two g A w w') (n : Nat) : Two g A w (w'.drewN n) := ⟨h.os, h.tape, h.output, h.size, h.block⟩
theorem Blk.two {b : Nat} {t : TypeId} {cs : Array Value} (h : Blk w b t cs) (k : Two g A w w') (h1 : b ≠ g) (h2 : some b ≠ blk A) : Blk w' b t cs := (k.block b h.lt h1 h2).trans h
theorem Two.below (k : Two g A w w') {B : Nat} {w0 : World} (hB : Below B w0 w) (hg : B ≤ g) (hA : ∀ b, blk A = some b → B ≤ b) (hs : B ≤ w.heap.size) : Below B w0 w' :=
  ⟨k.os.trans hB.os, k.tape.trans hB.tape, k.output.trans hB.output, Nat.le_trans hB.size k.size, fun i hi => (k.block i (by omega) (by omega) (fun e => by have := hA i e.symm; omega)).trans (hB.block i hi)⟩
theorem OwnO.two {α : Type} {f : α → Value} {lo : Nat} {e : TypeId} {B : Option Addr} {cap : Nat} {xs : List α} (h : OwnO f w lo e B cap xs) (k : Two g A w w') (h1 : ∀ b, blk B = some b → b ≠ g) (h2 : Sep B A) : OwnO f w' lo e B cap xs := by
  rcases h with h | ⟨b, off, cur, rfl, h3, hb, r⟩
  · exact .inl h
  · exact .inr ⟨b, off, cur, rfl, h3, hb.two k (h1 b rfl) (fun e => h2 b rfl e.symm), r⟩
theorem RdL.two {α : Type} {f : α → Value} {B : Option Addr} {xs : List α} (h : RdL f w B xs) (k : Two g A w w') (h1 : ∀ b o, B = some ⟨b, o, none⟩ → b ≠ g ∧ some b ≠ blk A) : RdL f w' B xs := by
  rcases h with rfl | ⟨b, o, hB, hc⟩
  · exact .inl rfl
  · refine .inr ⟨b, o, hB, fun i x hx => ?_⟩
    have hx' := hc i x hx
    have hlt := World.block_lt_of_cell? w _ hx'
    have := k.block b hlt (h1 b o hB).1 (h1 b o hB).2
    simp only [World.cell?] at hx' ⊢
    rw [this]
    exact hx'
end

/-- The controller at block g has gone on by a second. -/
def StepM (a : Ctl) (cars : List Bool) (g lo : Nat) (A : Option Addr) (c : Nat) (w : World) (e : Ending) (w' : World) : Prop :=
  e = .returned (.tuple #[]) ∧ Blk w' g 25 (acC (stepF a cars) A c) ∧ OwnO fB w' lo 4 A c (stepF a cars).wa ∧ Two g A w w'

theorem acC_of {a : Ctl} {cars : List Bool} {st x p q l : Int} {n : Nat} {W : List Bool} (hs : stepF a cars = ⟨st, x, p, q, l, W⟩) (hl : W.length = n) (A : Option Addr) (c : Nat) : acC (stepF a cars) A c = #[.int .i64 st, .int .i64 x, .int .i64 p, .int .i64 q, .int .i64 l, .slice A n c] := by
  rw [hs]; simp only [acC, hl]

set_option maxHeartbeats 3200000 in
theorem iStepM_any (a : Ctl) (cars : List Bool) (A C : Option Addr) (c d g lo : Nat) (w : World) (hg : Good a) (hl : a.wa.length = cars.length) (hb : Blk w g 25 (acC a A c)) (hlo : lo ≤ g) (ho : OwnO fB w lo 4 A c a.wa)
    (hne : ∀ b, blk A = some b → b ≠ g) (hc : RdL fB w C cars) (hcl : ∀ b o, C = some ⟨b, o, none⟩ → b < lo) :
    Calls Try.prog 29 #[.pointer (some ⟨g, 0, none⟩), .slice C cars.length d] w (StepM a cars g lo A c w) := by
  have HG := Lib.hid hg
  have HL := Lib.hid hl
  obtain ⟨now, pa, qu, le, wa, rfl, hn1, hn5, hnow, hp0, hp1, hq0, hq1, hl0, hl1⟩ := hg.form
  have hlc : wa.length ≤ cars.length := Nat.le_of_eq hl
  have hlc2 : cars.length ≤ wa.length := Nat.le_of_eq hl.symm
  simp only at ho
  rw [← orK_zero wa cars] at ho
  clear hl hg
  go_enter Try.func29, Try.ntmps29
  go_wp2_with fail
  go_loopw [9] (fun i wr => ∃ k : Nat, k ≤ wa.length ∧ i = .int .i64 k ∧ OwnO fB wr lo 4 A c (orK wa cars k) ∧ Blk wr g 25 (acC ⟨(wa.length : Int), (now : Int), pa, qu, le, wa⟩ A c) ∧ Below lo w wr ∧ Two g A w wr) (fun i _ => wa.length - (intOf i).toNat)
  case atStart => exact ⟨0, Nat.zero_le _, rfl, ho, hb, Below.refl _ _, Two.refl _ _ _⟩
  case round =>
    clear ho hb
    obtain ⟨k, hk, rfl, ho, hb, hbel, htwo⟩ := hrel
    obtain ⟨f0, f1, f2, f3, f4, f5⟩ := loadT hb
    have hgl := hb.lt
    simp only at f0 f1 f2 f3 f4 f5
    by_cases hlt : k < wa.length
    · have hltc : k < cars.length := by omega
      obtain ⟨g1, o1, rfl, hcw, hfw, hlo1, hlt1⟩ := ho.at (k := k) (by rw [orK_length]; exact hlt)
      obtain ⟨b2, o2, rfl, hcc⟩ := (hc.belowB hbel hcl).at (k := k) hltc
      rw [gb_at hltc] at hcc
      rw [orK_get hlt] at hcw
      have hg1 : g1 ≠ g := hne g1 rfl
      simp only [fB] at hcc
      cases hcar : gb cars k with
      | true =>
        rw [hcar] at hcc
        have hs := ho.set (k := k) (x := true) (by rw [orK_length]; exact hlt)
        rw [orK_yes hcar] at hs
        have Hs := Lib.hid hs
        have hb2 := Lib.hid (hb.far (p := ⟨g1, o1 + k, none⟩) (by simp; omega) (fB true))
        have hbel2 := Lib.hid (hbel.setCell (p := ⟨g1, o1 + k, none⟩) (by simp; omega) (fB true))
        have htwo2 := Lib.hid (htwo.setCell (p := ⟨g1, o1 + k, none⟩) (.inr rfl) (fB true))
        clear hs ho hb hbel hc hcl hne hcar htwo
        generalize gb wa k = x at hcw
        simp only [fB] at hcw
        go_wp2_with fail
        go_roundw
        case rel => exact ⟨k + 1, by omega, by go_num, Hs.out, hb2.out, hbel2.out, htwo2.out⟩
        case measure => simp [intOf]; omega
      | false =>
        rw [hcar] at hcc
        have Hs := Lib.hid (orK_no (wa := wa) hcar)
        have HO := Lib.hid ho
        have HB := Lib.hid hb
        clear ho hb hc hcl hne hcar
        generalize gb wa k = x at hcw
        go_wp2_with fail
        go_roundw
        case rel => exact ⟨k + 1, by omega, by go_num, by rw [Hs.out]; exact HO.out, HB.out, hbel, htwo⟩
        case measure => simp [intOf]; omega
    · obtain rfl : k = wa.length := by omega
      rw [orK_all HL.out] at ho
      have hff := hb.frozen
      by_cases hle : 0 < le
      · have hs2 := Lib.hid (stepF_left (a := ⟨(wa.length : Int), (now : Int), pa, qu, le, wa⟩) (cars := cars) hle)
        have HO := Lib.hid ho
        have hAg : blk A = none ∨ blk A ≠ some g := by
          cases hA : blk A with
          | none => exact .inl rfl
          | some b => exact .inr fun e => hne b hA (by injection e)
        have HB := Lib.hid hb
        clear ho hb hc hcl hne
        go_wp2_with fail
        go_end0
        refine ⟨rfl, ?_, ?_, ((htwo.setCell (.inl rfl) _).setCell (.inl rfl) _).setCell (.inl rfl) _⟩
        · rw [acC_of hs2.out (orL_length HL.out)]
          have := ((HB.out.set_ 4 (.int .i64 (le - 1))).set_ 2 (.int .i64 0)).set_ 3 (.int .i64 0)
          simpa using this
        · rw [hs2.out]
          exact HO.out.grown (only_setCell (only_setCell (only_set (w := wr) (g := g) (k := 4) _) (p := ⟨g, 2, none⟩) (.inl rfl) _) (p := ⟨g, 3, none⟩) (.inl rfl) _) hAg
      · obtain rfl : le = 0 := by omega
        obtain ⟨g1, o1, rfl, hcw, hfw, hlo1, hlt1⟩ := ho.at (k := now) (by rw [orL_length HL.out]; exact hnow)
        have hnl : now < cars.length := by omega
        obtain ⟨b2, o2, rfl, hcc⟩ := (hc.belowB hbel hcl).at (k := now) hnl
        have hb2 : b2 < lo := hcl _ _ rfl
        have hg1 : g1 ≠ g := hne g1 rfl
        rw [gb_at hnl] at hcc
        have hs := ho.set (k := now) (x := false) (by rw [orL_length HL.out]; exact hnow)
        rw [show (orL wa cars).set now false = waF ⟨(wa.length : Int), (now : Int), pa, qu, 0, wa⟩ cars by simp only [waF, Int.toNat_natCast]] at hs
        have hwl : (waF ⟨(wa.length : Int), (now : Int), pa, qu, 0, wa⟩ cars).length = wa.length := waF_length (a := ⟨(wa.length : Int), (now : Int), pa, qu, 0, wa⟩) HL.out
        have Hwl := Lib.hid hwl
        generalize hW : waF ⟨(wa.length : Int), (now : Int), pa, qu, 0, wa⟩ cars = W at hs hwl Hwl
        have HW := Lib.hid hW
        have hnb := nxF_bd (cars := cars) HG.out HL.out
        have HNX : Hid (nextI W now (wa.length - 1) = nxF ⟨(wa.length : Int), (now : Int), pa, qu, 0, wa⟩ cars) := Lib.hid (by simp only [nxF, Int.toNat_natCast]; rw [hW])
        obtain ⟨nx, hNX⟩ : ∃ x, nxF ⟨(wa.length : Int), (now : Int), pa, qu, 0, wa⟩ cars = x := ⟨_, rfl⟩
        rw [hNX] at hnb HNX
        have HNXe := Lib.hid hNX
        obtain ⟨hnb0, hnb1⟩ := hnb
        have HQ : Hid (quF ⟨(wa.length : Int), (now : Int), pa, qu, 0, wa⟩ cars = if gb cars now = true then 0 else qu + 1) := Lib.hid (by simp only [quF, Int.toNat_natCast])
        have hb' := hb.far (p := ⟨g1, o1 + now, none⟩) (by simp; omega) (fB false)
        have hbel' := htwo.setCell (p := ⟨g1, o1 + now, none⟩) (.inr rfl) (fB false)
        have hcc' : (wr.setCell ⟨g1, o1 + now, none⟩ (.bool false)).cell? ⟨b2, o2 + now, none⟩ = some (.bool (gb cars now)) := by
          rw [World.cell?_setCell_other wr ⟨g1, o1 + now, none⟩ _ _ (fun e => by injection e; omega)]
          exact hcc
        rw [gb_at (by rw [orL_length HL.out]; exact hnow)] at hcw
        generalize gb (orL wa cars) now = x at hcw
        simp only [fB] at hcw hcc hs hb' hbel'
        clear ho hb hbel htwo hc hcl hne hwl hW hNX hcc
        go_wp2_with fail
        go_region
        cases hcar : gb cars now with
        | true =>
          have HQ1 := Lib.hid (HQ.out.trans (if_pos hcar))
          rw [hcar] at hcc'
          clear HQ hcar
          have hbN : Blk ((((wr.setCell ⟨g1, o1 + now, none⟩ (.bool false)).setCell ⟨g, 2, none⟩ (.int .i64 (pa + 1))).setCell ⟨g, 3, none⟩ (.int .i64 (qu + 1))).setCell ⟨g, 3, none⟩ (.int .i64 0)) g 25 (acC ⟨(W.length : Int), (now : Int), pa + 1, 0, 0, W⟩ (some ⟨g1, o1, none⟩) c) := by
            have := (((hb'.set_ 2 (.int .i64 (pa + 1))).set_ 3 (.int .i64 (qu + 1))).set_ 3 (.int .i64 (0)))
            simp only [acC, Hwl.out]
            simpa using this
          have honN := (hs.grown (only_setCell (only_setCell (only_set (w := (wr.setCell ⟨g1, o1 + now, none⟩ (.bool false))) (g := g) (k := 2) (.int .i64 (pa + 1))) (p := ⟨g, 3, none⟩) (.inl rfl) (.int .i64 (qu + 1))) (p := ⟨g, 3, none⟩) (.inl rfl) (.int .i64 (0))) (.inr (by simpa using hg1)))
          have hbelN := (((hbel'.setCell (p := ⟨g, 2, none⟩) (.inl rfl) (.int .i64 (pa + 1))).setCell (p := ⟨g, 3, none⟩) (.inl rfl) (.int .i64 (qu + 1))).setCell (p := ⟨g, 3, none⟩) (.inl rfl) (.int .i64 (0)))
          have hnx := iNext_any now (pa + 1) (0) 0 W (some ⟨g1, o1, none⟩) c g _ hbN.drew honN.drew.rd (by rw [Hwl.out]; exact hnow) (by rw [Hwl.out]; exact hn5)
          rw [Hwl.out, HNX.out] at hnx
          have HBN := Lib.hid hbN
          have HON := Lib.hid honN
          have HBELN := Lib.hid hbelN
          clear hbN honN hbelN hb' hs hbel'
          go_wp2_with fail
          refine hnx.mono ?_
          rintro e w2 ⟨rfl, m, hw2⟩
          have hbN : Blk w2 g 25 (acC ⟨(W.length : Int), (now : Int), pa + 1, 0, 0, W⟩ (some ⟨g1, o1, none⟩) c) := by rw [hw2]; exact HBN.out
          have honN : OwnO fB w2 lo 4 (some ⟨g1, o1, none⟩) c W := by rw [hw2]; exact HON.out
          have hbelN : Two g (some ⟨g1, o1, none⟩) w w2 := by rw [hw2]; exact HBELN.out.drew.drewN _
          clear hw2 HBN HON HBELN hnx hcc'
          obtain ⟨j0, j1, j2, j3, j4, j5⟩ := loadT hbN
          have hjf := hbN.frozen
          simp only at j0 j1 j2 j3 j4 j5
          rw [Hwl.out] at j0 j5
          have hBN2 : ∀ P q, Blk (((w2.setCell ⟨g, 2, none⟩ (.int .i64 P)).setCell ⟨g, 3, none⟩ (.int .i64 q)).drew) g 25 #[.int .i64 (wa.length : Int), .int .i64 (now : Int), .int .i64 P, .int .i64 q, .int .i64 0, .slice (some ⟨g1, o1, none⟩) wa.length c] := fun P q => by
            have := ((hbN.set_ 2 (.int .i64 P)).set_ 3 (.int .i64 q)).drew
            simp only [acC, Hwl.out] at this
            simpa using this
          have hBN4 : Blk ((((w2.setCell ⟨g, 1, none⟩ (.int .i64 nx)).setCell ⟨g, 2, none⟩ (.int .i64 0)).setCell ⟨g, 3, none⟩ (.int .i64 0)).setCell ⟨g, 4, none⟩ (.int .i64 4)) g 25 #[.int .i64 (wa.length : Int), .int .i64 nx, .int .i64 0, .int .i64 0, .int .i64 4, .slice (some ⟨g1, o1, none⟩) wa.length c] := by
            have := (((hbN.set_ 1 (.int .i64 nx)).set_ 2 (.int .i64 0)).set_ 3 (.int .i64 0)).set_ 4 (.int .i64 4)
            simp only [acC, Hwl.out] at this
            simpa using this
          have hON2 : ∀ P q : Int, OwnO fB ((w2.setCell ⟨g, 2, none⟩ (.int .i64 P)).setCell ⟨g, 3, none⟩ (.int .i64 q)) lo 4 (some ⟨g1, o1, none⟩) c W := fun P q => own_set2 honN (fun b h => by simp at h; omega)
          have hON4 := own_set2 (i := 3) (j := 4) (u := .int .i64 0) (v := .int .i64 4) (own_set2 (i := 1) (j := 2) (u := .int .i64 nx) (v := .int .i64 0) honN (fun b h => by simp at h; omega : ∀ b, blk (some (⟨g1, o1, none⟩ : Addr)) = some b → b ≠ g)) (fun b h => by simp at h; omega : ∀ b, blk (some (⟨g1, o1, none⟩ : Addr)) = some b → b ≠ g)
          have HBN4 := Lib.hid hBN4
          have HBN2 := Lib.hid hBN2
          have HON4 := Lib.hid hON4
          have HON2 := Lib.hid hON2
          clear hbN honN hBN4 hON4 hBN2 hON2
          go_wp2_with fail
          all_goals try (go_region; go_wp2_with fail)
          all_goals have hBN2 := HBN2.out
          all_goals have hON2 := HON2.out
          all_goals first
            | (have hst := step_go' (a := ⟨(wa.length : Int), (now : Int), pa, qu, 0, wa⟩) (cars := cars) (show ¬ (0 : Int) < 0 by omega) HNXe.out HQ1.out (by omega) (show 5 ≤ pa + 1 by omega) (show 3 ≤ 0 ∨ 40 ≤ pa + 1 by omega)
               rw [HW.out] at hst
               go_end0
               refine ⟨rfl, ?_, ?_, (((hbelN.setCell (.inl rfl) _).setCell (.inl rfl) _).setCell (.inl rfl) _).setCell (.inl rfl) _⟩
               · rw [acC_of hst Hwl.out]
                 exact HBN4.out
               · rw [hst]
                 exact HON4.out)
            | (have hst := step_stay' (a := ⟨(wa.length : Int), (now : Int), pa, qu, 0, wa⟩) (cars := cars) (p := pa + 1) (q := 0) (show ¬ (0 : Int) < 0 by omega) HNXe.out HQ1.out (show nx < 0 ∨ pa + 1 < 5 ∨ (0 < 3 ∧ pa + 1 < 40) by omega) (show pa + 1 = min (pa + 1) 40 by omega) (show 0 = min (0) (pa + 1) by omega)
               rw [HW.out] at hst
               go_end0
               refine ⟨rfl, ?_, ?_, ((hbelN.setCell (p := ⟨g, 2, none⟩) (.inl rfl) (.int .i64 (pa + 1))).setCell (p := ⟨g, 3, none⟩) (.inl rfl) (.int .i64 (0))).drew⟩
               · rw [acC_of hst Hwl.out]
                 exact hBN2 _ _
               · rw [hst]
                 exact (hON2 _ _).drew)
            | (have hst := step_stay' (a := ⟨(wa.length : Int), (now : Int), pa, qu, 0, wa⟩) (cars := cars) (p := 40) (q := 0) (show ¬ (0 : Int) < 0 by omega) HNXe.out HQ1.out (show nx < 0 ∨ pa + 1 < 5 ∨ (0 < 3 ∧ pa + 1 < 40) by omega) (show 40 = min (pa + 1) 40 by omega) (show 0 = min (0) (40) by omega)
               rw [HW.out] at hst
               go_end0
               refine ⟨rfl, ?_, ?_, ((hbelN.setCell (p := ⟨g, 2, none⟩) (.inl rfl) (.int .i64 (40))).setCell (p := ⟨g, 3, none⟩) (.inl rfl) (.int .i64 (0))).drew⟩
               · rw [acC_of hst Hwl.out]
                 exact hBN2 _ _
               · rw [hst]
                 exact (hON2 _ _).drew)
        | false =>
          have HQ1 := Lib.hid (HQ.out.trans (if_neg (by rw [hcar]; decide)))
          rw [hcar] at hcc'
          clear HQ hcar
          have hbN : Blk (((wr.setCell ⟨g1, o1 + now, none⟩ (.bool false)).setCell ⟨g, 2, none⟩ (.int .i64 (pa + 1))).setCell ⟨g, 3, none⟩ (.int .i64 (qu + 1))) g 25 (acC ⟨(W.length : Int), (now : Int), pa + 1, qu + 1, 0, W⟩ (some ⟨g1, o1, none⟩) c) := by
            have := ((hb'.set_ 2 (.int .i64 (pa + 1))).set_ 3 (.int .i64 (qu + 1)))
            simp only [acC, Hwl.out]
            simpa using this
          have honN := (hs.grown (only_setCell (only_set (w := (wr.setCell ⟨g1, o1 + now, none⟩ (.bool false))) (g := g) (k := 2) (.int .i64 (pa + 1))) (p := ⟨g, 3, none⟩) (.inl rfl) (.int .i64 (qu + 1))) (.inr (by simpa using hg1)))
          have hbelN := ((hbel'.setCell (p := ⟨g, 2, none⟩) (.inl rfl) (.int .i64 (pa + 1))).setCell (p := ⟨g, 3, none⟩) (.inl rfl) (.int .i64 (qu + 1)))
          have hnx := iNext_any now (pa + 1) (qu + 1) 0 W (some ⟨g1, o1, none⟩) c g _ hbN.drew honN.drew.rd (by rw [Hwl.out]; exact hnow) (by rw [Hwl.out]; exact hn5)
          rw [Hwl.out, HNX.out] at hnx
          have HBN := Lib.hid hbN
          have HON := Lib.hid honN
          have HBELN := Lib.hid hbelN
          clear hbN honN hbelN hb' hs hbel'
          go_wp2_with fail
          refine hnx.mono ?_
          rintro e w2 ⟨rfl, m, hw2⟩
          have hbN : Blk w2 g 25 (acC ⟨(W.length : Int), (now : Int), pa + 1, qu + 1, 0, W⟩ (some ⟨g1, o1, none⟩) c) := by rw [hw2]; exact HBN.out
          have honN : OwnO fB w2 lo 4 (some ⟨g1, o1, none⟩) c W := by rw [hw2]; exact HON.out
          have hbelN : Two g (some ⟨g1, o1, none⟩) w w2 := by rw [hw2]; exact HBELN.out.drew.drewN _
          clear hw2 HBN HON HBELN hnx hcc'
          obtain ⟨j0, j1, j2, j3, j4, j5⟩ := loadT hbN
          have hjf := hbN.frozen
          simp only at j0 j1 j2 j3 j4 j5
          rw [Hwl.out] at j0 j5
          have hBN2 : ∀ P q, Blk (((w2.setCell ⟨g, 2, none⟩ (.int .i64 P)).setCell ⟨g, 3, none⟩ (.int .i64 q)).drew) g 25 #[.int .i64 (wa.length : Int), .int .i64 (now : Int), .int .i64 P, .int .i64 q, .int .i64 0, .slice (some ⟨g1, o1, none⟩) wa.length c] := fun P q => by
            have := ((hbN.set_ 2 (.int .i64 P)).set_ 3 (.int .i64 q)).drew
            simp only [acC, Hwl.out] at this
            simpa using this
          have hBN4 : Blk ((((w2.setCell ⟨g, 1, none⟩ (.int .i64 nx)).setCell ⟨g, 2, none⟩ (.int .i64 0)).setCell ⟨g, 3, none⟩ (.int .i64 0)).setCell ⟨g, 4, none⟩ (.int .i64 4)) g 25 #[.int .i64 (wa.length : Int), .int .i64 nx, .int .i64 0, .int .i64 0, .int .i64 4, .slice (some ⟨g1, o1, none⟩) wa.length c] := by
            have := (((hbN.set_ 1 (.int .i64 nx)).set_ 2 (.int .i64 0)).set_ 3 (.int .i64 0)).set_ 4 (.int .i64 4)
            simp only [acC, Hwl.out] at this
            simpa using this
          have hON2 : ∀ P q : Int, OwnO fB ((w2.setCell ⟨g, 2, none⟩ (.int .i64 P)).setCell ⟨g, 3, none⟩ (.int .i64 q)) lo 4 (some ⟨g1, o1, none⟩) c W := fun P q => own_set2 honN (fun b h => by simp at h; omega)
          have hON4 := own_set2 (i := 3) (j := 4) (u := .int .i64 0) (v := .int .i64 4) (own_set2 (i := 1) (j := 2) (u := .int .i64 nx) (v := .int .i64 0) honN (fun b h => by simp at h; omega : ∀ b, blk (some (⟨g1, o1, none⟩ : Addr)) = some b → b ≠ g)) (fun b h => by simp at h; omega : ∀ b, blk (some (⟨g1, o1, none⟩ : Addr)) = some b → b ≠ g)
          have HBN4 := Lib.hid hBN4
          have HBN2 := Lib.hid hBN2
          have HON4 := Lib.hid hON4
          have HON2 := Lib.hid hON2
          clear hbN honN hBN4 hON4 hBN2 hON2
          go_wp2_with fail
          all_goals try (go_region; go_wp2_with fail)
          all_goals have hBN2 := HBN2.out
          all_goals have hON2 := HON2.out
          all_goals first
            | (have hst := step_go' (a := ⟨(wa.length : Int), (now : Int), pa, qu, 0, wa⟩) (cars := cars) (show ¬ (0 : Int) < 0 by omega) HNXe.out HQ1.out (by omega) (show 5 ≤ pa + 1 by omega) (show 3 ≤ qu + 1 ∨ 40 ≤ pa + 1 by omega)
               rw [HW.out] at hst
               go_end0
               refine ⟨rfl, ?_, ?_, (((hbelN.setCell (.inl rfl) _).setCell (.inl rfl) _).setCell (.inl rfl) _).setCell (.inl rfl) _⟩
               · rw [acC_of hst Hwl.out]
                 exact HBN4.out
               · rw [hst]
                 exact HON4.out)
            | (have hst := step_stay' (a := ⟨(wa.length : Int), (now : Int), pa, qu, 0, wa⟩) (cars := cars) (p := pa + 1) (q := qu + 1) (show ¬ (0 : Int) < 0 by omega) HNXe.out HQ1.out (show nx < 0 ∨ pa + 1 < 5 ∨ (qu + 1 < 3 ∧ pa + 1 < 40) by omega) (show pa + 1 = min (pa + 1) 40 by omega) (show qu + 1 = min (qu + 1) (pa + 1) by omega)
               rw [HW.out] at hst
               go_end0
               refine ⟨rfl, ?_, ?_, ((hbelN.setCell (p := ⟨g, 2, none⟩) (.inl rfl) (.int .i64 (pa + 1))).setCell (p := ⟨g, 3, none⟩) (.inl rfl) (.int .i64 (qu + 1))).drew⟩
               · rw [acC_of hst Hwl.out]
                 exact hBN2 _ _
               · rw [hst]
                 exact (hON2 _ _).drew)
            | (have hst := step_stay' (a := ⟨(wa.length : Int), (now : Int), pa, qu, 0, wa⟩) (cars := cars) (p := 40) (q := qu + 1) (show ¬ (0 : Int) < 0 by omega) HNXe.out HQ1.out (show nx < 0 ∨ pa + 1 < 5 ∨ (qu + 1 < 3 ∧ pa + 1 < 40) by omega) (show 40 = min (pa + 1) 40 by omega) (show qu + 1 = min (qu + 1) (40) by omega)
               rw [HW.out] at hst
               go_end0
               refine ⟨rfl, ?_, ?_, ((hbelN.setCell (p := ⟨g, 2, none⟩) (.inl rfl) (.int .i64 (40))).setCell (p := ⟨g, 3, none⟩) (.inl rfl) (.int .i64 (qu + 1))).drew⟩
               · rw [acC_of hst Hwl.out]
                 exact hBN2 _ _
               · rw [hst]
                 exact (hON2 _ _).drew)
            | (have hst := step_stay' (a := ⟨(wa.length : Int), (now : Int), pa, qu, 0, wa⟩) (cars := cars) (p := pa + 1) (q := pa + 1) (show ¬ (0 : Int) < 0 by omega) HNXe.out HQ1.out (show nx < 0 ∨ pa + 1 < 5 ∨ (qu + 1 < 3 ∧ pa + 1 < 40) by omega) (show pa + 1 = min (pa + 1) 40 by omega) (show pa + 1 = min (qu + 1) (pa + 1) by omega)
               rw [HW.out] at hst
               go_end0
               refine ⟨rfl, ?_, ?_, ((hbelN.setCell (p := ⟨g, 2, none⟩) (.inl rfl) (.int .i64 (pa + 1))).setCell (p := ⟨g, 3, none⟩) (.inl rfl) (.int .i64 (pa + 1))).drew⟩
               · rw [acC_of hst Hwl.out]
                 exact hBN2 _ _
               · rw [hst]
                 exact (hON2 _ _).drew)
            | (have hst := step_stay' (a := ⟨(wa.length : Int), (now : Int), pa, qu, 0, wa⟩) (cars := cars) (p := 40) (q := 40) (show ¬ (0 : Int) < 0 by omega) HNXe.out HQ1.out (show nx < 0 ∨ pa + 1 < 5 ∨ (qu + 1 < 3 ∧ pa + 1 < 40) by omega) (show 40 = min (pa + 1) 40 by omega) (show 40 = min (qu + 1) (40) by omega)
               rw [HW.out] at hst
               go_end0
               refine ⟨rfl, ?_, ?_, ((hbelN.setCell (p := ⟨g, 2, none⟩) (.inl rfl) (.int .i64 (40))).setCell (p := ⟨g, 3, none⟩) (.inl rfl) (.int .i64 (40))).drew⟩
               · rw [acC_of hst Hwl.out]
                 exact hBN2 _ _
               · rw [hst]
                 exact (hON2 _ _).drew)
end Go.Proofs.Ytkppjngpllmpfaa
