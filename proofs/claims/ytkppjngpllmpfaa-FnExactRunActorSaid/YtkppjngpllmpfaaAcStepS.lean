/-
  One second of a controller: the reference's.
-/
import Derived.Test.YtkppjngpllmpfaaAcStep
namespace Go.Proofs.Ytkppjngpllmpfaa
open Go.RowKit
set_option linter.unusedVariables false

theorem loadT {w : World} {g : Nat} {t : TypeId} {a : Ctl} {A : Option Addr} {c : Nat} (h : Blk w g t (acC a A c)) :
    w.cell? ⟨g, 0, none⟩ = some (.int .i64 a.st) ∧ w.cell? ⟨g, 1, none⟩ = some (.int .i64 a.now) ∧ w.cell? ⟨g, 2, none⟩ = some (.int .i64 a.pa) ∧
    w.cell? ⟨g, 3, none⟩ = some (.int .i64 a.qu) ∧ w.cell? ⟨g, 4, none⟩ = some (.int .i64 a.le) ∧ w.cell? ⟨g, 5, none⟩ = some (.slice A a.wa.length c) :=
  ⟨h.cell 0, h.cell 1, h.cell 2, h.cell 3, h.cell 4, h.cell 5⟩

theorem step_go' {a : Ctl} {cars : List Bool} {nx Q : Int} (hle : ¬ 0 < a.le) (hnx : nxF a cars = nx) (hq : quF a cars = Q) (h1 : 0 ≤ nx) (h2 : 5 ≤ a.pa + 1) (h3 : 3 ≤ Q ∨ 40 ≤ a.pa + 1) : stepF a cars = ⟨a.st, nx, 0, 0, 4, waF a cars⟩ := by
  rw [stepF_go hle (goF_iff.mpr (by rw [hnx, hq]; exact ⟨h1, h2, h3⟩)), hnx]
theorem step_stay' {a : Ctl} {cars : List Bool} {nx Q p q : Int} (hle : ¬ 0 < a.le) (hnx : nxF a cars = nx) (hq : quF a cars = Q) (h : nx < 0 ∨ a.pa + 1 < 5 ∨ (Q < 3 ∧ a.pa + 1 < 40)) (hp : p = min (a.pa + 1) 40) (hq2 : q = min Q p) : stepF a cars = ⟨a.st, a.now, p, q, 0, waF a cars⟩ := by
  rw [stepF_stay hle (goF_no.mpr (by rw [hnx, hq]; omega)), hq, hq2, hp]
theorem acV_of {a : Ctl} {cars : List Bool} {st x p q l : Int} {n : Nat} (hs : stepF a cars = ⟨st, x, p, q, l, waF a cars⟩) (hl : (waF a cars).length = n) (A : Option Addr) (c : Nat) : acV (stepF a cars) A c = .agg #[.int .i64 st, .int .i64 x, .int .i64 p, .int .i64 q, .int .i64 l, .slice A n c] := by
  rw [hs]; simp only [acV, acC, hl]
theorem own_set2 {w : World} {g i j : Nat} {u v : Value} {α : Type} {f : α → Value} {lo : Nat} {e : TypeId} {A : Option Addr} {cap : Nat} {xs : List α} (h : OwnO f w lo e A cap xs) (hne : ∀ b, blk A = some b → b ≠ g) : OwnO f ((w.setCell ⟨g, i, none⟩ u).setCell ⟨g, j, none⟩ v) lo e A cap xs :=
  h.grown (only_setCell (only_set (w := w) (g := g) (k := i) u) (p := ⟨g, j, none⟩) (.inl rfl) v) (by
    cases hA : blk A with
    | none => exact .inl rfl
    | some b => exact .inr fun e => hne b hA (by injection e))

set_option maxHeartbeats 3200000 in
theorem sStepA_any (a : Ctl) (cars : List Bool) (A C : Option Addr) (c d : Nat) (w : World) (hg : Good a) (hl : a.wa.length = cars.length) (hr : RdL fB w A a.wa) (hc : RdL fB w C cars) :
    Calls Try.prog 31 #[acV a A c, .slice C cars.length d] w (AcNew (stepF a cars) w) := by
  obtain ⟨i0, hi0, hz0, hz1, hz2⟩ := info_parts info_Bool
  have HG := Lib.hid hg
  have HL := Lib.hid hl
  obtain ⟨now, pa, qu, le, wa, rfl, hn1, hn5, hnow, hp0, hp1, hq0, hq1, hl0, hl1⟩ := hg.form
  have hlc : wa.length ≤ cars.length := Nat.le_of_eq hl
  have hcl : cars.length ≤ 5 := by have := Nat.le_of_eq hl.symm; exact Nat.le_trans this hn5
  simp only at hr
  clear hl hg
  have hbx := (Blk.new w 25 (acC ⟨(wa.length : Int), (now : Int), pa, qu, le, wa⟩ A c)).alloc (.cells acZ 25) |>.alloc (.cells #[] 4)
  have hbz := (Blk.new2 w (.cells (acC ⟨(wa.length : Int), (now : Int), pa, qu, le, wa⟩ A c) 25) 25 acZ).alloc (.cells #[] 4)
  have hb3 := Blk.new3 w (.cells (acC ⟨(wa.length : Int), (now : Int), pa, qu, le, wa⟩ A c) 25) (.cells acZ 25) 4 #[]
  have hB3 := (((Below.refl w.heap.size w).alloc (Nat.le_refl _) (.cells (acC ⟨(wa.length : Int), (now : Int), pa, qu, le, wa⟩ A c) 25)).alloc (by simp) (.cells acZ 25)).alloc (by simp; omega) (.cells #[] 4)
  have h0 := OwnL.of_cap (lo := w.heap.size + 1 + 1) (cap := 0) fB hb3 (Nat.le_refl _) rfl (by simp [maxLen])
  have hr3 := hr.below hB3
  go_enter Try.func31, Try.ntmps31
  go_wp2_with (at_builtin; go_must (refine wpList_appendL rfl (.tmp 10) (.tmp 12) 23 rfl i0 _ 1 Try.underlying23 hi0 hz0 hz1 hz2 rfl rfl h0 A wa c rfl hr3 (fun _ => rfl) (by simp; omega) (by omega) (by simp) ?_); intro A1 c1 w1 ho hgr hbk)
  have ho0 : OwnO fB w1 (w.heap.size + 1 + 1) 4 A1 c1 (orK wa cars 0) := by
    rw [orK_zero]
    have ho2 : OwnL fB w1 (w.heap.size + 1 + 1) 4 A1 c1 wa := by simpa using ho
    exact ho2.o
  replace hbx := hbx.grown hgr (by simp; omega)
  replace hbz := hbz.grown hgr (by simp)
  have hB1 := hB3.grown hgr (by simp; omega) (fun k e => by simp at e; omega)
  clear hb3 h0 hr3 hB3 ho hgr hbk hr
  go_loopw [6] (fun i wr => ∃ k : Nat, k ≤ wa.length ∧ i = .int .i64 k ∧ OwnO fB wr (w.heap.size + 1 + 1) 4 A1 c1 (orK wa cars k) ∧ Blk wr w.heap.size 25 (acC ⟨(wa.length : Int), (now : Int), pa, qu, le, wa⟩ A c) ∧ Blk wr (w.heap.size + 1) 25 acZ ∧ Below w.heap.size w wr) (fun i _ => wa.length - (intOf i).toNat)
  case atStart => exact ⟨0, Nat.zero_le _, rfl, ho0, hbx, hbz, hB1⟩
  case round =>
    clear ho0 hbx hbz hB1
    obtain ⟨k, hk, rfl, ho, hbx, hbz, hbel⟩ := hrel
    obtain ⟨f0, f1, f2, f3, f4, f5⟩ := loadT hbx
    simp only at f0 f1 f2 f3 f4 f5
    by_cases hlt : k < wa.length
    · obtain ⟨g1, o1, rfl, hcw, hfw, hlo1, hlt1⟩ := ho.at (k := k) (by rw [orK_length]; exact hlt)
      rw [orK_get hlt] at hcw
      have hltc : k < cars.length := by omega
      obtain ⟨b2, o2, rfl, hcc⟩ := (hc.below hbel).at (k := k) hltc
      rw [gb_at hltc] at hcc
      have hs := ho.set (k := k) (x := gb wa k || gb cars k) (by rw [orK_length]; exact hlt)
      rw [orK_set] at hs
      have hbx2 := Lib.hid (hbx.far (p := ⟨g1, o1 + k, none⟩) (by simp; omega) (fB (gb wa k || gb cars k)))
      have hbz2 := Lib.hid (hbz.far (p := ⟨g1, o1 + k, none⟩) (by simp; omega) (fB (gb wa k || gb cars k)))
      have hbel2 := Lib.hid (hbel.setCell (p := ⟨g1, o1 + k, none⟩) (by simp; omega) (fB (gb wa k || gb cars k)))
      have Hs := Lib.hid hs
      clear hs ho hbx hbz hbel hc
      simp only [fB] at hcw hcc
      generalize gb cars k = q at *
      generalize gb wa k = p at *
      cases p
      all_goals
        simp only [Bool.true_or, Bool.false_or] at Hs hbx2 hbz2 hbel2
        go_wp2_with fail
        go_roundw
        case rel => exact ⟨k + 1, by omega, by go_num, Hs.out, hbx2.out, hbz2.out, hbel2.out⟩
        case measure => simp [intOf]; omega
    · obtain rfl : k = wa.length := by omega
      rw [orK_all HL.out] at ho
      have e0 := hbz.cell 0
      have e1 := hbz.cell 1
      have e2 := hbz.cell 2
      have e3 := hbz.cell 3
      have e4 := hbz.cell 4
      have e5 := hbz.cell 5
      have ef := hbz.frozen
      simp at e0 e1 e2 e3 e4 e5
      have hA1 : ∀ b, blk A1 = some b → b ≠ w.heap.size + 1 := fun b h => by have := (ho.lt b h).1; omega
      have hsz := hbz.lt
      by_cases hle : 0 < le
      · have HV := Lib.hid (show acV (stepF ⟨(wa.length : Int), (now : Int), pa, qu, le, wa⟩ cars) A1 c1 = .agg #[.int .i64 (wa.length : Int), .int .i64 (now : Int), .int .i64 0, .int .i64 0, .int .i64 (le - 1), .slice A1 wa.length c1] by
          rw [stepF_left hle]; simp only [acV, acC, orL_length HL.out])
        have HW := Lib.hid (show (stepF ⟨(wa.length : Int), (now : Int), pa, qu, le, wa⟩ cars).wa = orL wa cars by rw [stepF_left hle])
        have HO := Lib.hid (ho.mono (show w.heap.size ≤ w.heap.size + 1 + 1 by omega))
        clear ho hbx hbz hc
        go_wp2_with fail
        refine bodyPost_ret (v := .agg #[.int .i64 (wa.length : Int), .int .i64 (now : Int), .int .i64 0, .int .i64 0, .int .i64 (le - 1), .slice A1 wa.length c1]) (by simp [results, Try.results31, go_sem, e0, e1, e2, e3, e4, e5]) rfl ⟨A1, c1, by rw [HV.out], ?_, below_set6 hbel (by omega)⟩
        rw [HW.out]
        exact own_set6 HO.out hA1
      · obtain ⟨g1, o1, rfl, hcw, hfw, hlo1, hlt1⟩ := ho.at (k := now) (by rw [orL_length HL.out]; exact hnow)
        have hnl : now < cars.length := by omega
        obtain ⟨b2, o2, rfl, hcc⟩ := (hc.below hbel).at (k := now) hnl
        rw [gb_at hnl] at hcc
        have hs := ho.set (k := now) (x := false) (by rw [orL_length HL.out]; exact hnow)
        rw [show (orL wa cars).set now false = waF ⟨(wa.length : Int), (now : Int), pa, qu, le, wa⟩ cars by simp only [waF, Int.toNat_natCast]] at hs
        have hbx2 := hbx.far (p := ⟨g1, o1 + now, none⟩) (by simp; omega) (fB false)
        have hbz2 := hbz.far (p := ⟨g1, o1 + now, none⟩) (by simp; omega) (fB false)
        have hbel2 := hbel.setCell (p := ⟨g1, o1 + now, none⟩) (by simp; omega) (fB false)
        have hcc2 : (wr.setCell ⟨g1, o1 + now, none⟩ (fB false)).cell? ⟨b2, o2 + now, none⟩ = some (fB (gb cars now)) := by
          have := ((hc.below hbel2).at (k := now) hnl)
          obtain ⟨b3, o3, e, h⟩ := this
          injection e with e
          injection e with e e'
          subst e e'
          rw [gb_at hnl] at h
          exact h
        have hwl : (waF ⟨(wa.length : Int), (now : Int), pa, qu, le, wa⟩ cars).length = wa.length := waF_length (a := ⟨(wa.length : Int), (now : Int), pa, qu, le, wa⟩) HL.out
        have hnx := fun w hr => sNext_any now (pa + 1) (if gb cars now = true then 0 else qu + 1) 0 (waF ⟨(wa.length : Int), (now : Int), pa, qu, le, wa⟩ cars) (some ⟨g1, o1, none⟩) c1 w hr (by rw [hwl]; exact hnow) (by rw [hwl]; exact hn5)
        simp only [acV, acC, hwl] at hnx
        have HNX : Hid (nextI (waF ⟨(wa.length : Int), (now : Int), pa, qu, le, wa⟩ cars) now (wa.length - 1) = nxF ⟨(wa.length : Int), (now : Int), pa, qu, le, wa⟩ cars) := Lib.hid (by simp only [nxF, Int.toNat_natCast])
        rw [HNX.out] at hnx
        have hnb := nxF_bd (cars := cars) HG.out HL.out
        have HQ : Hid (quF ⟨(wa.length : Int), (now : Int), pa, qu, le, wa⟩ cars = if gb cars now = true then 0 else qu + 1) := Lib.hid (by simp only [quF, Int.toNat_natCast])
        have HWL := Lib.hid hwl
        clear hwl
        obtain ⟨e0, e1, e2, e3, e4, e5⟩ := (⟨hbz2.cell 0, hbz2.cell 1, hbz2.cell 2, hbz2.cell 3, hbz2.cell 4, hbz2.cell 5⟩ : _ ∧ _ ∧ _ ∧ _ ∧ _ ∧ _)
        obtain ⟨f0, f1, f2, f3, f4, f5⟩ := loadT hbx2
        simp only at hnb f0 f1 f2 f3 f4 f5
        simp only [fB] at hcw hcc hcc2
        obtain ⟨hnb0, hnb1⟩ := hnb
        have hszq := hbz2.lt
        cases hcar : gb cars now with
        | true =>
          rw [hcar, if_pos rfl] at hnx
          have HQ1 := Lib.hid (HQ.out.trans (if_pos hcar))
          rw [hcar] at hcc2 hcc
          clear hcar HQ
          go_wp2_with fail
          have hb8 : Blk ((wr.setCell ⟨g1, o1 + now, none⟩ (.bool false)).alloc (.cells #[.int .i64 (wa.length : Int), .int .i64 (now : Int), .int .i64 (pa + 1), .int .i64 0, .int .i64 0, .slice (some ⟨g1, o1, none⟩) wa.length c1] 25)) wr.heap.size 25 #[.int .i64 (wa.length : Int), .int .i64 (now : Int), .int .i64 (pa + 1), .int .i64 0, .int .i64 0, .slice (some ⟨g1, o1, none⟩) wa.length c1] := by
            have := Blk.new (wr.setCell ⟨g1, o1 + now, none⟩ (.bool false)) 25 #[.int .i64 (wa.length : Int), .int .i64 (now : Int), .int .i64 (pa + 1), .int .i64 0, .int .i64 0, .slice (some ⟨g1, o1, none⟩) wa.length c1]
            simpa using this
          have hs8 := hs.alloc (.cells #[.int .i64 (wa.length : Int), .int .i64 (now : Int), .int .i64 (pa + 1), .int .i64 0, .int .i64 0, .slice (some ⟨g1, o1, none⟩) wa.length c1] 25)
          have hbz8 := hbz2.alloc (.cells #[.int .i64 (wa.length : Int), .int .i64 (now : Int), .int .i64 (pa + 1), .int .i64 0, .int .i64 0, .slice (some ⟨g1, o1, none⟩) wa.length c1] 25)
          have hbx8 := hbx2.alloc (.cells #[.int .i64 (wa.length : Int), .int .i64 (now : Int), .int .i64 (pa + 1), .int .i64 0, .int .i64 0, .slice (some ⟨g1, o1, none⟩) wa.length c1] 25)
          have hbel8 := hbel2.alloc (by simp; omega) (.cells #[.int .i64 (wa.length : Int), .int .i64 (now : Int), .int .i64 (pa + 1), .int .i64 0, .int .i64 0, .slice (some ⟨g1, o1, none⟩) wa.length c1] 25)
          clear hbz2 hbx2 hbel2 hs hcc2 hbx hbz hbel ho e0 e1 e2 e3 e4 e5 f0 f1 f2 f3 f4 f5 hcc
          refine (hnx _ hs8.rd).mono ?_
          rintro e w3 ⟨rfl, b3⟩
          have hsz3 := hbel8.size
          replace hb8 := hb8.below b3 hb8.lt
          replace hs8 := hs8.below b3
          replace hbz8 := hbz8.below b3 hbz8.lt
          replace hbx8 := hbx8.below b3 hbx8.lt
          replace hbel8 := hbel8.trans (b3.mono hsz3)
          obtain ⟨e0, e1, e2, e3, e4, e5⟩ := (⟨hbz8.cell 0, hbz8.cell 1, hbz8.cell 2, hbz8.cell 3, hbz8.cell 4, hbz8.cell 5⟩ : _ ∧ _ ∧ _ ∧ _ ∧ _ ∧ _)
          obtain ⟨j0, j1, j2, j3, j4, j5⟩ := (⟨hb8.cell 0, hb8.cell 1, hb8.cell 2, hb8.cell 3, hb8.cell 4, hb8.cell 5⟩ : _ ∧ _ ∧ _ ∧ _ ∧ _ ∧ _)
          obtain ⟨f0, f1, f2, f3, f4, f5⟩ := loadT hbx8
          have hef := hbz8.frozen
          have hjf := hb8.frozen
          simp at e0 e1 e2 e3 e4 e5 j0 j1 j2 j3 j4 j5
          simp only at f0 f1 f2 f3 f4 f5
          clear b3 hnx hef ef
          have hef := hbz8.frozen
          obtain ⟨nx, hNX⟩ : ∃ x, nxF ⟨(wa.length : Int), (now : Int), pa, qu, le, wa⟩ cars = x := ⟨_, rfl⟩
          rw [hNX] at hnb0 hnb1 ⊢
          have HNXe := Lib.hid hNX
          clear hNX
          have hA2 : ∀ b, blk (some (⟨g1, o1, none⟩ : Addr)) = some b → b ≠ wr.heap.size := fun b h => by simp at h; omega
          have HO := Lib.hid (hs8.mono (show w.heap.size ≤ w.heap.size + 1 + 1 by omega))
          clear hs8 hbz8 hbx8 hb8
          go_wp2_with fail
          all_goals first
            | (refine bodyPost_ret (v := .agg #[.int .i64 (wa.length : Int), .int .i64 nx, .int .i64 0, .int .i64 0, .int .i64 4, .slice (some ⟨g1, o1, none⟩) wa.length c1]) ?_ rfl ?_
               · simp [results, Try.results31, go_sem, e0, e1, e2, e3, e4, e5]; done
               · have hst := step_go' (a := ⟨(wa.length : Int), (now : Int), pa, qu, le, wa⟩) (cars := cars) (show ¬ 0 < le by omega) HNXe.out HQ1.out (by omega) (show 5 ≤ pa + 1 by omega) (show 3 ≤ 0 ∨ 40 ≤ pa + 1 by omega)
                 refine ⟨_, c1, by rw [acV_of hst HWL.out], ?_, below_set6 hbel8 (by omega)⟩
                 rw [hst]
                 exact own_set6 HO.out hA1)
            | (refine bodyPost_ret (v := .agg #[.int .i64 (wa.length : Int), .int .i64 (now : Int), .int .i64 (pa + 1), .int .i64 (0), .int .i64 0, .slice (some ⟨g1, o1, none⟩) wa.length c1]) ?_ rfl ?_
               · simp [results, Try.results31, go_sem, e0, e1, e2, e3, e4, e5]; done
               · have hst := step_stay' (a := ⟨(wa.length : Int), (now : Int), pa, qu, le, wa⟩) (cars := cars) (p := pa + 1) (q := 0) (show ¬ 0 < le by omega) HNXe.out HQ1.out (show nx < 0 ∨ pa + 1 < 5 ∨ (0 < 3 ∧ pa + 1 < 40) by omega) (show pa + 1 = min (pa + 1) 40 by omega) (show 0 = min (0) (pa + 1) by omega)
                 refine ⟨_, c1, by rw [acV_of hst HWL.out], ?_, below_set6 ((hbel8.setCell (by first | omega | (simp; omega)) _).setCell (by first | omega | (simp; omega)) _) (by omega)⟩
                 rw [hst]
                 exact own_set6 (own_set2 HO.out hA2) hA1)
            | (refine bodyPost_ret (v := .agg #[.int .i64 (wa.length : Int), .int .i64 (now : Int), .int .i64 (40), .int .i64 (0), .int .i64 0, .slice (some ⟨g1, o1, none⟩) wa.length c1]) ?_ rfl ?_
               · simp [results, Try.results31, go_sem, e0, e1, e2, e3, e4, e5]; done
               · have hst := step_stay' (a := ⟨(wa.length : Int), (now : Int), pa, qu, le, wa⟩) (cars := cars) (p := 40) (q := 0) (show ¬ 0 < le by omega) HNXe.out HQ1.out (show nx < 0 ∨ pa + 1 < 5 ∨ (0 < 3 ∧ pa + 1 < 40) by omega) (show 40 = min (pa + 1) 40 by omega) (show 0 = min (0) (40) by omega)
                 refine ⟨_, c1, by rw [acV_of hst HWL.out], ?_, below_set6 ((hbel8.setCell (by first | omega | (simp; omega)) _).setCell (by first | omega | (simp; omega)) _) (by omega)⟩
                 rw [hst]
                 exact own_set6 (own_set2 HO.out hA2) hA1)
        | false =>
          rw [hcar, if_neg (by decide)] at hnx
          have HQ1 := Lib.hid (HQ.out.trans (if_neg (by rw [hcar]; decide)))
          rw [hcar] at hcc2 hcc
          clear hcar HQ
          go_wp2_with fail
          have hb8 : Blk ((wr.setCell ⟨g1, o1 + now, none⟩ (.bool false)).alloc (.cells #[.int .i64 (wa.length : Int), .int .i64 (now : Int), .int .i64 (pa + 1), .int .i64 (qu + 1), .int .i64 0, .slice (some ⟨g1, o1, none⟩) wa.length c1] 25)) wr.heap.size 25 #[.int .i64 (wa.length : Int), .int .i64 (now : Int), .int .i64 (pa + 1), .int .i64 (qu + 1), .int .i64 0, .slice (some ⟨g1, o1, none⟩) wa.length c1] := by
            have := Blk.new (wr.setCell ⟨g1, o1 + now, none⟩ (.bool false)) 25 #[.int .i64 (wa.length : Int), .int .i64 (now : Int), .int .i64 (pa + 1), .int .i64 (qu + 1), .int .i64 0, .slice (some ⟨g1, o1, none⟩) wa.length c1]
            simpa using this
          have hs8 := hs.alloc (.cells #[.int .i64 (wa.length : Int), .int .i64 (now : Int), .int .i64 (pa + 1), .int .i64 (qu + 1), .int .i64 0, .slice (some ⟨g1, o1, none⟩) wa.length c1] 25)
          have hbz8 := hbz2.alloc (.cells #[.int .i64 (wa.length : Int), .int .i64 (now : Int), .int .i64 (pa + 1), .int .i64 (qu + 1), .int .i64 0, .slice (some ⟨g1, o1, none⟩) wa.length c1] 25)
          have hbx8 := hbx2.alloc (.cells #[.int .i64 (wa.length : Int), .int .i64 (now : Int), .int .i64 (pa + 1), .int .i64 (qu + 1), .int .i64 0, .slice (some ⟨g1, o1, none⟩) wa.length c1] 25)
          have hbel8 := hbel2.alloc (by simp; omega) (.cells #[.int .i64 (wa.length : Int), .int .i64 (now : Int), .int .i64 (pa + 1), .int .i64 (qu + 1), .int .i64 0, .slice (some ⟨g1, o1, none⟩) wa.length c1] 25)
          clear hbz2 hbx2 hbel2 hs hcc2 hbx hbz hbel ho e0 e1 e2 e3 e4 e5 f0 f1 f2 f3 f4 f5 hcc
          refine (hnx _ hs8.rd).mono ?_
          rintro e w3 ⟨rfl, b3⟩
          have hsz3 := hbel8.size
          replace hb8 := hb8.below b3 hb8.lt
          replace hs8 := hs8.below b3
          replace hbz8 := hbz8.below b3 hbz8.lt
          replace hbx8 := hbx8.below b3 hbx8.lt
          replace hbel8 := hbel8.trans (b3.mono hsz3)
          obtain ⟨e0, e1, e2, e3, e4, e5⟩ := (⟨hbz8.cell 0, hbz8.cell 1, hbz8.cell 2, hbz8.cell 3, hbz8.cell 4, hbz8.cell 5⟩ : _ ∧ _ ∧ _ ∧ _ ∧ _ ∧ _)
          obtain ⟨j0, j1, j2, j3, j4, j5⟩ := (⟨hb8.cell 0, hb8.cell 1, hb8.cell 2, hb8.cell 3, hb8.cell 4, hb8.cell 5⟩ : _ ∧ _ ∧ _ ∧ _ ∧ _ ∧ _)
          obtain ⟨f0, f1, f2, f3, f4, f5⟩ := loadT hbx8
          have hef := hbz8.frozen
          have hjf := hb8.frozen
          simp at e0 e1 e2 e3 e4 e5 j0 j1 j2 j3 j4 j5
          simp only at f0 f1 f2 f3 f4 f5
          clear b3 hnx hef ef
          have hef := hbz8.frozen
          obtain ⟨nx, hNX⟩ : ∃ x, nxF ⟨(wa.length : Int), (now : Int), pa, qu, le, wa⟩ cars = x := ⟨_, rfl⟩
          rw [hNX] at hnb0 hnb1 ⊢
          have HNXe := Lib.hid hNX
          clear hNX
          have hA2 : ∀ b, blk (some (⟨g1, o1, none⟩ : Addr)) = some b → b ≠ wr.heap.size := fun b h => by simp at h; omega
          have HO := Lib.hid (hs8.mono (show w.heap.size ≤ w.heap.size + 1 + 1 by omega))
          clear hs8 hbz8 hbx8 hb8
          go_wp2_with fail
          all_goals first
            | (refine bodyPost_ret (v := .agg #[.int .i64 (wa.length : Int), .int .i64 nx, .int .i64 0, .int .i64 0, .int .i64 4, .slice (some ⟨g1, o1, none⟩) wa.length c1]) ?_ rfl ?_
               · simp [results, Try.results31, go_sem, e0, e1, e2, e3, e4, e5]; done
               · have hst := step_go' (a := ⟨(wa.length : Int), (now : Int), pa, qu, le, wa⟩) (cars := cars) (show ¬ 0 < le by omega) HNXe.out HQ1.out (by omega) (show 5 ≤ pa + 1 by omega) (show 3 ≤ qu + 1 ∨ 40 ≤ pa + 1 by omega)
                 refine ⟨_, c1, by rw [acV_of hst HWL.out], ?_, below_set6 hbel8 (by omega)⟩
                 rw [hst]
                 exact own_set6 HO.out hA1)
            | (refine bodyPost_ret (v := .agg #[.int .i64 (wa.length : Int), .int .i64 (now : Int), .int .i64 (pa + 1), .int .i64 (qu + 1), .int .i64 0, .slice (some ⟨g1, o1, none⟩) wa.length c1]) ?_ rfl ?_
               · simp [results, Try.results31, go_sem, e0, e1, e2, e3, e4, e5]; done
               · have hst := step_stay' (a := ⟨(wa.length : Int), (now : Int), pa, qu, le, wa⟩) (cars := cars) (p := pa + 1) (q := qu + 1) (show ¬ 0 < le by omega) HNXe.out HQ1.out (show nx < 0 ∨ pa + 1 < 5 ∨ (qu + 1 < 3 ∧ pa + 1 < 40) by omega) (show pa + 1 = min (pa + 1) 40 by omega) (show qu + 1 = min (qu + 1) (pa + 1) by omega)
                 refine ⟨_, c1, by rw [acV_of hst HWL.out], ?_, below_set6 ((hbel8.setCell (by first | omega | (simp; omega)) _).setCell (by first | omega | (simp; omega)) _) (by omega)⟩
                 rw [hst]
                 exact own_set6 (own_set2 HO.out hA2) hA1)
            | (refine bodyPost_ret (v := .agg #[.int .i64 (wa.length : Int), .int .i64 (now : Int), .int .i64 (40), .int .i64 (qu + 1), .int .i64 0, .slice (some ⟨g1, o1, none⟩) wa.length c1]) ?_ rfl ?_
               · simp [results, Try.results31, go_sem, e0, e1, e2, e3, e4, e5]; done
               · have hst := step_stay' (a := ⟨(wa.length : Int), (now : Int), pa, qu, le, wa⟩) (cars := cars) (p := 40) (q := qu + 1) (show ¬ 0 < le by omega) HNXe.out HQ1.out (show nx < 0 ∨ pa + 1 < 5 ∨ (qu + 1 < 3 ∧ pa + 1 < 40) by omega) (show 40 = min (pa + 1) 40 by omega) (show qu + 1 = min (qu + 1) (40) by omega)
                 refine ⟨_, c1, by rw [acV_of hst HWL.out], ?_, below_set6 ((hbel8.setCell (by first | omega | (simp; omega)) _).setCell (by first | omega | (simp; omega)) _) (by omega)⟩
                 rw [hst]
                 exact own_set6 (own_set2 HO.out hA2) hA1)
            | (refine bodyPost_ret (v := .agg #[.int .i64 (wa.length : Int), .int .i64 (now : Int), .int .i64 (pa + 1), .int .i64 (pa + 1), .int .i64 0, .slice (some ⟨g1, o1, none⟩) wa.length c1]) ?_ rfl ?_
               · simp [results, Try.results31, go_sem, e0, e1, e2, e3, e4, e5]; done
               · have hst := step_stay' (a := ⟨(wa.length : Int), (now : Int), pa, qu, le, wa⟩) (cars := cars) (p := pa + 1) (q := pa + 1) (show ¬ 0 < le by omega) HNXe.out HQ1.out (show nx < 0 ∨ pa + 1 < 5 ∨ (qu + 1 < 3 ∧ pa + 1 < 40) by omega) (show pa + 1 = min (pa + 1) 40 by omega) (show pa + 1 = min (qu + 1) (pa + 1) by omega)
                 refine ⟨_, c1, by rw [acV_of hst HWL.out], ?_, below_set6 ((hbel8.setCell (by first | omega | (simp; omega)) _).setCell (by first | omega | (simp; omega)) _) (by omega)⟩
                 rw [hst]
                 exact own_set6 (own_set2 HO.out hA2) hA1)
            | (refine bodyPost_ret (v := .agg #[.int .i64 (wa.length : Int), .int .i64 (now : Int), .int .i64 (40), .int .i64 (40), .int .i64 0, .slice (some ⟨g1, o1, none⟩) wa.length c1]) ?_ rfl ?_
               · simp [results, Try.results31, go_sem, e0, e1, e2, e3, e4, e5]; done
               · have hst := step_stay' (a := ⟨(wa.length : Int), (now : Int), pa, qu, le, wa⟩) (cars := cars) (p := 40) (q := 40) (show ¬ 0 < le by omega) HNXe.out HQ1.out (show nx < 0 ∨ pa + 1 < 5 ∨ (qu + 1 < 3 ∧ pa + 1 < 40) by omega) (show 40 = min (pa + 1) 40 by omega) (show 40 = min (qu + 1) (40) by omega)
                 refine ⟨_, c1, by rw [acV_of hst HWL.out], ?_, below_set6 ((hbel8.setCell (by first | omega | (simp; omega)) _).setCell (by first | omega | (simp; omega)) _) (by omega)⟩
                 rw [hst]
                 exact own_set6 (own_set2 HO.out hA2) hA1)
end Go.Proofs.Ytkppjngpllmpfaa
