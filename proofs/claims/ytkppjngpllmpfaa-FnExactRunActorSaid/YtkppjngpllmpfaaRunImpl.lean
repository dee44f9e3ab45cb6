/-
  RunActor: the program's.
-/
import Derived.Test.YtkppjngpllmpfaaRunMath
import Derived.Test.YtkppjngpllmpfaaAcStepA
namespace Go.Proofs.Ytkppjngpllmpfaa
open Go.RowKit
set_option linter.unusedVariables false

/-! ### blocks of different element types differ -/
theorem sepT {α β : Type} {f : α → Value} {g : β → Value} {w : World} {lo lo' : Nat} {T T' : TypeId} {A B : Option Addr} {c d : Nat} {xs : List α} {ys : List β} (h : OwnO f w lo T A c xs) (h' : OwnO g w lo' T' B d ys) (hne : T ≠ T') : Sep A B := by
  intro b h1 h2
  rcases h with ⟨rfl, _⟩ | ⟨g1, o1, cur, rfl, _, hb, _⟩
  · simp at h1
  rcases h' with ⟨rfl, _⟩ | ⟨g2, o2, cur2, rfl, _, hb2, _⟩
  · simp at h2
  simp at h1 h2
  subst h1 h2
  unfold Blk at hb hb2
  rw [hb] at hb2
  injection hb2 with e
  injection e with _ e2
  exact hne e2
theorem neT {α : Type} {f : α → Value} {w : World} {lo : Nat} {T T' : TypeId} {A : Option Addr} {c g : Nat} {xs : List α} {cs : Array Value} (h : OwnO f w lo T A c xs) (hb' : Blk w g T' cs) (hne : T ≠ T') : ∀ b, blk A = some b → b ≠ g := by
  intro b h1 e
  rcases h with ⟨rfl, _⟩ | ⟨g1, o1, cur, rfl, _, hb, _⟩
  · simp at h1
  simp at h1
  subst h1 e
  unfold Blk at hb hb'
  rw [hb] at hb'
  injection hb' with e
  injection e with _ e2
  exact hne e2

/-! ### a slice of slices that is read -/
def fS (p : Option Addr × Nat × Nat) : Value := .slice p.1 p.2.1 p.2.2
def RdSS {α : Type} (f : α → Value) (w : World) (C : Option Addr) (css : List (List α)) : Prop :=
  ∃ ps : List (Option Addr × Nat × Nat), RdL fS w C ps ∧ ps.length = css.length ∧ ∀ k (h : k < css.length) (h' : k < ps.length), ps[k].2.1 = css[k].length ∧ RdL f w ps[k].1 css[k]
section
variable {α : Type} {f : α → Value} {w w' : World} {C : Option Addr} {css : List (List α)}
theorem RdSS.at (h : RdSS f w C css) {k : Nat} (hk : k < css.length) : ∃ b o A c, C = some ⟨b, o, none⟩ ∧ w.cell? ⟨b, o + k, none⟩ = some (.slice A css[k].length c) ∧ RdL f w A css[k] := by
  obtain ⟨ps, h1, h2, h3⟩ := h
  have hk' : k < ps.length := by omega
  obtain ⟨b, o, hC, hc⟩ := h1.at hk'
  obtain ⟨h4, h5⟩ := h3 k hk hk'
  exact ⟨b, o, ps[k].1, ps[k].2.2, hC, by rw [hc, fS, h4], h5⟩
theorem RdSS.below (h : RdSS f w C css) (hb : Below w.heap.size w w') : RdSS f w' C css := by
  obtain ⟨ps, h1, h2, h3⟩ := h
  exact ⟨ps, h1.below hb, h2, fun k h h' => ⟨(h3 k h h').1, (h3 k h h').2.below hb⟩⟩
theorem RdSS.alloc (h : RdSS f w C css) (o : Obj) : RdSS f (w.alloc o) C css := h.below ((Below.refl _ _).alloc (Nat.le_refl _) _)
theorem RdSS.drew (h : RdSS f w C css) : RdSS f w.drew C css := h.below (Below.refl _ _).drew
end

theorem own_ne2 {α : Type} {f : α → Value} {w : World} {lo : Nat} {e : TypeId} {A : Option Addr} {c g : Nat} {xs : List α} (h : OwnO f w lo e A c xs) (hg : g < lo) : ∀ b, blk A = some b → b ≠ g := fun b hb => by
  have := (h.lt b hb).1
  omega
theorem fit_no {a : Ctl} {cs : List (List Bool)} {k : Nat} (hk : k < cs.length) (h : (cs[k].length : Int) ≠ a.st) : validR a cs = false := by
  cases hv : validR a cs with
  | false => rfl
  | true =>
    obtain ⟨hg, _, hc⟩ := validR_parts hv
    have := hc k hk
    have := hg.wa
    omega
theorem fit_yes {a : Ctl} {cs : List (List Bool)} (hv : validA a = true) (hl : cs.length ≤ 150) (h : ∀ k (hk : k < cs.length), (cs[k].length : Int) = a.st) : validR a cs = true := by
  simp only [validR, hv, Bool.true_and, Bool.and_eq_true, decide_eq_true_eq]
  refine ⟨hl, List.all_eq_true.mpr fun c hc => ?_⟩
  obtain ⟨k, hk, rfl⟩ := List.getElem_of_mem hc
  simpa using h k hk

set_option maxHeartbeats 3200000 in
theorem iRun_any (a : Ctl) (cs : List (List Bool)) (A C : Option Addr) (c d : Nat) (w : World) (hr : RdL fB w A a.wa) (hc : RdSS fB w C cs) (hn : cs.length ≤ 2000000) :
    Calls Try.prog 8 #[acV a A c, .slice C cs.length d] w (NewS fI 3 w (runF a cs)) := by
  obtain ⟨i0, hi0, hz0, hz1, hz2⟩ := info_parts info_Int
  have hb := Blk.new w 25 (acC a A c)
  have hB := (Below.refl w.heap.size w).alloc (Nat.le_refl _) (.cells (acC a A c) 25)
  have hbl := hb.lt
  go_enter Try.func8, Try.ntmps8
  go_wp2_with fail
  refine (iValidA_any a A c _).mono ?_
  rintro e w1 ⟨rfl, v0⟩
  replace hb := hb.below v0 hbl
  replace hB := hB.trans (v0.mono hB.size)
  clear v0
  have hno : validR a cs = false → NewS fI 3 w (runF a cs) (.returned (.slice none 0 0)) w1 := fun h => by
    rw [show runF a cs = [] by simp [runF, h]]
    exact ⟨none, 0, rfl, OwnO.nil _ _ _ _, hB⟩
  cases hv : validA a with
  | false =>
    have H := Lib.hid (hno (by simp [validR, hv]))
    clear hno
    go_wp2_with fail
    go_ret
    exact H.out
  | true =>
    by_cases hl : 150 < cs.length
    · have H := Lib.hid (hno (by simp [validR]; omega))
      clear hno
      go_wp2_with fail
      go_ret
      exact H.out
    obtain ⟨f0, f1, f2, f3, f4, f5⟩ := loadT hb
    have Hno := Lib.hid hno
    have Hv := Lib.hid hv
    clear hno hv
    go_wp2_with fail
    go_loop [20] (fun i => ∃ k : Nat, k ≤ cs.length ∧ i = .int .i64 k ∧ ∀ j (hj : j < cs.length), j < k → (cs[j].length : Int) = a.st) (fun i => cs.length - (intOf i).toNat)
    case atStart => exact ⟨0, Nat.zero_le _, rfl, fun j hj h => by omega⟩
    case round =>
      obtain ⟨k, hk, rfl, hfit⟩ := hrel
      by_cases hlt : k < cs.length
      · obtain ⟨b, o, A', c', rfl, hcell, -⟩ := (hc.below hB).at hlt
        have hfn := Lib.hid (fit_no (a := a) hlt)
        have hfy := Lib.hid (show (cs[k].length : Int) = a.st → ∀ j (hj : j < cs.length), j < k + 1 → (cs[j].length : Int) = a.st from fun h j hj hj2 => by
          by_cases e : j = k
          · subst e; exact h
          · exact hfit j hj (by omega))
        clear hfit hr hc
        generalize cs[k].length = m at *
        by_cases hm : (m : Int) = a.st
        · have hm1 : ((m : Int) == a.st) = true := by simpa using hm
          have hN := Lib.hid (hfy.out hm)
          clear hm hfy hfn
          go_wp2_with fail
          go_round
          case rel => exact ⟨k + 1, by omega, by go_num, hN.out⟩
          case measure => simp [intOf]; omega
        · have hm1 : ((m : Int) == a.st) = false := by simpa using hm
          have hN := Lib.hid (Hno.out (hfn.out hm))
          clear hm hfy hfn
          go_wp2_with fail
          go_ret
          exact hN.out
      · obtain rfl : k = cs.length := by omega
        have hvr := fit_yes Hv.out (by omega) (fun j hj => hfit j hj hj)
        obtain ⟨hg, _, hcl⟩ := validR_parts hvr
        have hsg := Lib.hid (fun k hk => stA_good hvr k hk)
        have hsf := Lib.hid (fun (k : Nat) (hk : k < cs.length) => stA_fit hvr hk)
        have hss := Lib.hid (fun (k : Nat) (hk : k < cs.length) => stA_step (a := a) (cs := cs) hk)
        have hfin := Lib.hid (show runF a cs = runL a cs cs.length by rw [runF, if_pos hvr])
        have hw5 : a.wa.length ≤ 5 := by have := hg.wa; have := hg.st; omega
        have hbelow := Lib.hid (fun (k : Nat) (hk : k < cs.length) (A' : Option Addr) (hr' : RdL fB w A' cs[k]) (b o : Nat) (hA : A' = some ⟨b, o, none⟩) => show b < w.heap.size from by
          have h1 := hcl k hk
          have h2 := hg.wa
          have h3 := hg.st
          obtain ⟨b', o', e, hcell⟩ := hr'.at (k := 0) (by omega)
          rw [hA] at e
          injection e with e
          injection e with e e'
          subst e e'
          exact World.block_lt_of_cell? w _ hcell)
        have hr1 := (hr.below hB)
        clear hfit hvr hg hcl Hno
        go_wp2_with fail
        refine (cloneB_any a.wa A c _ hr1 (by omega)).mono ?_
        rintro e w2 ⟨A2, c2, rfl, h2, v0⟩
        have hb2 := hb.below v0 hb.lt
        have hB2 := hB.trans (v0.mono hB.size)
        have hne2 : ∀ b, blk A2 = some b → b ≠ w.heap.size := own_ne2 h2 hb.lt
        have h2m := h2.mono hB.size
        clear v0 h2 hb hB f0 f1 f2 f3 f4 f5 hr1 hr
        obtain ⟨f0, f1, f2, f3, f4, f5⟩ := loadT hb2
        have hff := hb2.frozen
        have hb3 : Blk (w2.setCell ⟨w.heap.size, 5, none⟩ (.slice A2 a.wa.length c2)) w.heap.size 25 (acC a A2 c2) := by
          have := hb2.set_ 5 (.slice A2 a.wa.length c2)
          simpa using this
        have h3 := h2m.grown (only_set (w := w2) (g := w.heap.size) (k := 5) (.slice A2 a.wa.length c2)) (by
          cases hA : blk A2 with
          | none => exact .inl rfl
          | some b => exact .inr fun e => hne2 b hA (by injection e))
        have hB3 := hB2.setCell (p := ⟨w.heap.size, 5, none⟩) (Nat.le_refl _) (.slice A2 a.wa.length c2)
        have hmk : ∀ W, (Instr.makeSlice 29 (.int .i64 0) (.int .i64 ((cs.length : Nat) : Int))).run Try.prog W = .ok (.slice (some ⟨W.heap.size, 0, none⟩) 0 cs.length) (W.alloc (.cells (List.replicate cs.length (Value.int .i64 0)).toArray 3)) :=
          fun W => run_make_n (P := Try.prog) 29 3 i0 (Value.int .i64 0) Try.underlying29 hi0 hz0 hz1 rfl .i64 .i64 0 cs.length (by omega) (by omega) (by omega) W
        clear hb2 h2m hB2
        go_wp2_with fail
        have hsz2 := hB3.size
        have hs := (OwnL.of_cap (lo := w.heap.size) (cap := cs.length) fI (Blk.new (w2.setCell ⟨w.heap.size, 5, none⟩ (.slice A2 a.wa.length c2)) 3 (Array.replicate cs.length (Value.int .i64 0))) hsz2 (by simp) (by unfold maxLen; omega)).o
        have hb4 := hb3.alloc (.cells (Array.replicate cs.length (Value.int .i64 0)) 3)
        have ho4 := h3.alloc (.cells (Array.replicate cs.length (Value.int .i64 0)) 3)
        have hB4 := hB3.alloc hsz2 (.cells (Array.replicate cs.length (Value.int .i64 0)) 3)
        have hszw : (w2.setCell ⟨w.heap.size, 5, none⟩ (.slice A2 a.wa.length c2)).heap.size = w2.heap.size := by simp
        rw [hszw] at hs
        clear hb3 h3 hB3 hszw hsz2 hmk f0 f1 f2 f3 f4 f5 hff
        generalize (w2.setCell ⟨w.heap.size, 5, none⟩ (.slice A2 a.wa.length c2)).alloc (.cells (Array.replicate cs.length (Value.int .i64 0)) 3) = w4 at *
        obtain ⟨As0, hAs0⟩ : ∃ As0, As0 = (some ⟨w2.heap.size, 0, none⟩ : Option Addr) := ⟨_, rfl⟩
        rw [← hAs0] at hs ⊢
        clear hAs0
        go_loopw [7, 39] (fun v7 i wr => ∃ k : Nat, k ≤ cs.length ∧ i = .int .i64 k ∧ (∃ zs As c3, v7 = .slice As zs.length c3 ∧ OwnO fI wr w.heap.size 3 As c3 zs ∧ zs = runL a cs k) ∧ Blk wr w.heap.size 25 (acC (stA a cs k) A2 c2) ∧ OwnO fB wr w.heap.size 4 A2 c2 (stA a cs k).wa ∧ Below w.heap.size w wr) (fun _ i _ => cs.length - (intOf i).toNat)
        case atStart => exact ⟨0, Nat.zero_le _, rfl, ⟨[], As0, cs.length, rfl, hs, rfl⟩, hb4, ho4, hB4⟩
        case round =>
          clear hs hb4 ho4 hB4
          obtain ⟨k, hk, rfl, ⟨zs, As, c3, rfl, hs, hzs⟩, hb, ho, hB⟩ := hrel
          have Hzs := Lib.hid hzs
          have Hzl := Lib.hid (show zs.length = k from by rw [hzs, runL_length])
          clear hzs
          by_cases hlt : k < cs.length
          case neg =>
            obtain rfl : k = cs.length := by omega
            clear hb ho
            go_wp2_with fail
            go_ret
            rw [hfin.out, ← Hzs.out]
            exact ⟨As, c3, rfl, hs, hB⟩
          obtain ⟨hgk, -, -⟩ := hsg.out k (by omega)
          have hlk := hsf.out k hlt
          have hsk := hss.out k hlt
          obtain ⟨ps, hps, hpl, hpe⟩ := hc
          have hkp : k < ps.length := by omega
          obtain ⟨e1, hrk⟩ := hpe k hlt hkp
          obtain ⟨b, o, rfl, hcell⟩ := (hps.below hB).at hkp
          rw [fS, e1] at hcell
          have hstep := iStepM_any (stA a cs k) cs[k] A2 ps[k].1 c2 ps[k].2.2 w.heap.size w.heap.size _ hgk hlk hb (Nat.le_refl _) ho (fun b hb' => neT ho hb (by decide) b hb') (hrk.below hB) (fun b o hA => hbelow.out k hlt _ hrk b o hA)
          have hlen5 : cs[k].length ≤ 5 := by have := hgk.wa; have := hgk.st; omega
          obtain ⟨x1, hx1⟩ : ∃ x1, x1 = stepF (stA a cs k) cs[k] := ⟨_, rfl⟩
          have hout : Hid (outA (stA a cs (k + 1)) = outA x1) := Lib.hid (by rw [hsk, hx1])
          have Hx1 : Hid (x1 = stA a cs (k + 1)) := Lib.hid (by rw [hsk, hx1])
          have hx2 := Lib.hid hx1
          generalize ps[k].1 = A' at *
          generalize ps[k].2.2 = c' at *
          clear hlk hsk hx1 hpe hps e1 hrk
          generalize cs[k] = ck at *
          go_wp2_with fail
          refine hstep.mono ?_
          rintro e w6 ⟨rfl, hb6, ho6, htwo⟩
          have hs6 := hs.two htwo (neT hs hb (by decide)) (sepT hs ho (by decide))
          have hB6 := htwo.below hB (Nat.le_refl _) (fun b h => (ho.lt b h).1) hB.size
          have hw6 := hB6.size
          have hsl := hs6.lt
          rw [← hx2.out] at hb6 ho6
          obtain ⟨f0, f1, f2, f3, f4, f5⟩ := loadT hb6
          have HB6 := Lib.hid hb6
          have HO6 := Lib.hid ho6
          have HBL := Lib.hid hB6
          clear hstep htwo hb6 ho6 hB6 hs hb ho hB
          by_cases hle : 0 < x1.le
          · have Hout := Lib.hid (show outA x1 = -1 by simp [outA, hle])
            have hout2 : Hid (outA (stA a cs (k + 1)) = -1) := Lib.hid (hout.out.trans Hout.out)
            clear hout
            have hout := hout2
            go_wp2_with (at_builtin; go_must (refine wpList_pushO rfl (.tmp 48) (.tmp 49) 29 rfl i0 _ 8 Try.underlying29 hi0 hz0 hz1 hz2 rfl rfl (hs6.alloc _) w6.heap.size (-1) rfl (cell_new _ _ _) rfl (by have := Hzl.out; omega) (by omega) (by simp; omega) ?_); intro A3 c3 w7 ho3 hg3 hb3)
            have hb7 := (HB6.out.alloc (.cells #[.int .i64 (-1)] 3)).grown hg3 (fun e => neT hs6 HB6.out (by decide) _ e.symm rfl)
            have ho7 := (HO6.out.alloc (.cells #[.int .i64 (-1)] 3)).grown hg3 (sepT hs6 HO6.out (by decide)).or
            have hB7 := below_push hw6 HBL.out hsl hg3
            go_roundw
            case rel => exact ⟨k + 1, by omega, by go_num, ⟨_, A3, c3, by simp, ho3, by rw [runL_succ, ← Hzs.out, hout.out]⟩, by rw [Hx1.out] at hb7; exact hb7, by rw [Hx1.out] at ho7; exact ho7, hB7⟩
            case measure => simp [intOf]; omega
          · have Hout := Lib.hid (show outA x1 = x1.now by simp [outA, hle])
            have hout2 : Hid (outA (stA a cs (k + 1)) = x1.now) := Lib.hid (hout.out.trans Hout.out)
            clear hout
            have hout := hout2
            go_wp2_with (at_builtin; go_must (refine wpList_pushO rfl (.tmp 51) (.tmp 54) 29 rfl i0 _ 8 Try.underlying29 hi0 hz0 hz1 hz2 rfl rfl (hs6.alloc _) w6.heap.size (x1.now) rfl (cell_new _ _ _) rfl (by have := Hzl.out; omega) (by omega) (by simp; omega) ?_); intro A3 c3 w7 ho3 hg3 hb3)
            have hb7 := (HB6.out.alloc (.cells #[.int .i64 (x1.now)] 3)).grown hg3 (fun e => neT hs6 HB6.out (by decide) _ e.symm rfl)
            have ho7 := (HO6.out.alloc (.cells #[.int .i64 (x1.now)] 3)).grown hg3 (sepT hs6 HO6.out (by decide)).or
            have hB7 := below_push hw6 HBL.out hsl hg3
            go_roundw
            case rel => exact ⟨k + 1, by omega, by go_num, ⟨_, A3, c3, by simp, ho3, by rw [runL_succ, ← Hzs.out, hout.out]⟩, by rw [Hx1.out] at hb7; exact hb7, by rw [Hx1.out] at ho7; exact ho7, hB7⟩
            case measure => simp [intOf]; omega
end Go.Proofs.Ytkppjngpllmpfaa
