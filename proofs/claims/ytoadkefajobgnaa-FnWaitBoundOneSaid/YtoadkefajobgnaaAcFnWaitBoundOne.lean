/-
  The statement FnWaitBoundOne: a single wish is granted soon.
-/
import Derived.Test.YtoadkefajobgnaaOpen
import Derived.Test.YtoadkefajobgnaaAcStepA
import Derived.Test.YtoadkefajobgnaaAcEx
import Derived.Test.YtoadkefajobgnaaAcDraw2
import Derived.Test.YtoadkefajobgnaaAcLaw
namespace Go.Proofs.Ytoadkefajobgnaa.FnWaitBoundOne
open Go.RowKit Go.ChangeShapes Go.WideShapes Go.ChangeAt Go.Proofs.Ytoadkefajobgnaa
set_option linter.unusedVariables false

theorem goal_ne {now len n : Nat} (hnow : now < n) (h2 : 2 ≤ n) : (now + 1 + len % (n - 1)) % n < n ∧ (now + 1 + len % (n - 1)) % n ≠ now := by
  have h := Nat.mod_lt len (show 0 < n - 1 by omega)
  refine ⟨Nat.mod_lt _ (by omega), ?_⟩
  rw [Nat.add_assoc]
  exact turn_ne hnow (by omega) (by omega)

set_option maxHeartbeats 3200000 in
theorem walk (A : Option Addr) (len cap : Nat) (w : World) (h : Bytes w A len) (hc : len ≤ cap) :
    Calls Try.prog 6 #[.slice A len cap] w fun e w' => e = .returned (.bool true) ∧ Below w.heap.size w w' := by
  obtain ⟨i0, hi0, hz0, hz1, hz2⟩ := info_parts info_Bool
  by_cases hl1 : 1048576 < len
  · go_enter Try.func6, Try.ntmps6
    go_wp2_with fail
    go_ret
    exact ⟨rfl, Below.refl _ _⟩
  go_enter Try.func6, Try.ntmps6
  go_wp2_with fail
  refine (drawWaitBound_any _ A len cap h hc).mono ?_
  rintro e w1 ⟨a, A1, c1, rfl, ⟨ha1, ha2, ha3⟩, ho1, hB⟩
  clear h
  go_wp2_with fail
  have ba := Blk.new w1 27 (acC a A1 c1)
  replace hB := hB.alloc hB.size (.cells (acC a A1 c1) 27)
  generalize w1.alloc (.cells (acC a A1 c1) 27) = w2 at *
  generalize w1.heap.size = ga at *
  refine (iBoundA_any a A1 c1 _).mono ?_
  rintro e w3 ⟨rfl, v0⟩
  replace ba := ba.below v0 ba.lt
  replace hB := hB.trans (v0.mono hB.size)
  clear v0 ho1
  obtain ⟨a0, a1, a2, a3, a4, a5⟩ := loadT ba
  go_wp2_with fail
  refine (sBoundA_any a A1 c1 _).mono ?_
  rintro e w4 ⟨rfl, v0⟩
  replace ba := ba.below v0 ba.lt
  replace hB := hB.trans (v0.mono hB.size)
  clear v0 a0 a1 a2 a3 a4 a5
  obtain ⟨a0, a1, a2, a3, a4, a5⟩ := loadT ba
  have hbv : boundA a < 0 ∨ a.st < 2 ∨ (validA a = true ∧ 2 ≤ a.st ∧ boundA a = (a.st - 1) * 45) := by
    unfold boundA
    cases hv : validA a with
    | false => exact .inl (by simp)
    | true =>
      right
      by_cases h2 : a.st < 2
      · exact .inl h2
      · exact .inr ⟨rfl, by omega, by simp⟩
  obtain ⟨N, hN⟩ : ∃ N, N = boundA a := ⟨_, rfl⟩
  have HN := Lib.hid hN
  rw [← hN] at hbv ⊢
  clear hN
  by_cases hneg : N < 0
  · have hb1 : decide (N < 0) = true := by simpa using hneg
    clear hbv
    go_wp2_with fail
    refine (sBoundA_any a A1 c1 _).mono ?_
    rw [← HN.out]
    rintro e w5 ⟨rfl, v0⟩
    replace hB := hB.trans (v0.mono hB.size)
    clear v0
    go_wp2_with fail
    go_ret
    exact ⟨rfl, hB⟩
  by_cases hst2 : a.st < 2
  · have hb1 : decide (N < 0) = false := by simpa using hneg
    have hb2 : decide (a.st < 2) = true := by simpa using hst2
    clear hbv
    go_wp2_with fail
    refine (sBoundA_any a A1 c1 _).mono ?_
    rw [← HN.out]
    rintro e w5 ⟨rfl, v0⟩
    replace hB := hB.trans (v0.mono hB.size)
    clear v0
    go_wp2_with fail
    go_ret
    exact ⟨rfl, hB⟩
  obtain ⟨hv, hst2', hbd⟩ := (hbv.resolve_left hneg).resolve_left hst2
  have hg := validA_iff.mp hv
  obtain ⟨st, now_, pa, qu, le, wa⟩ := a
  have hst := hg.wa
  have hnow := hg.now
  simp only at hst hnow hst2' hbd hst2 a0 a1 a2 a3 a4 a5
  obtain ⟨n, hn⟩ : ∃ n, n = wa.length := ⟨_, rfl⟩
  have hst5 := hg.st
  simp only at hst5
  obtain rfl : st = (n : Int) := by omega
  obtain ⟨now, rfl⟩ := Int.eq_ofNat_of_zero_le hnow.1
  have hn2 : 2 ≤ n := by omega
  have hn5 : n ≤ 5 := by omega
  have hnn : now < n := by omega
  obtain ⟨hgl, hgn⟩ := goal_ne (len := len) hnn hn2
  obtain ⟨g, hgd⟩ : ∃ g, g = (now + 1 + len % (n - 1)) % n := ⟨_, rfl⟩
  rw [← hgd] at hgl hgn
  have hln : (noneL n).length = n := List.length_replicate
  have hws : ((noneL n).set g true).length = n := by rw [List.length_set, hln]
  have hgz : Good ⟨(n : Int), (now : Int), pa, qu, le, (noneL n).set g true⟩ := ⟨hg.st, hg.now, hg.pa, hg.qu, hg.le, by simp only [hws]⟩
  have honly : Only ⟨(n : Int), (now : Int), pa, qu, le, (noneL n).set g true⟩ g := fun i hi => by
    simp only at hi
    rw [hws] at hi
    rw [← gb_at (by rw [hws]; exact hi), List.getElem_set]
    by_cases e : g = i
    · simp [e]
    · simp [e, Ne.symm e, noneL]
  have hend := Lib.hid (one_end hgz (g := g) (by simp only [hws]; exact hgl) (by simp only; omega) honly)
  have hgood := Lib.hid (fun k => iterS_good (cars := noneL n) hgz (by simp only [hws, hln]) k)
  simp only [hws] at hend
  have hN1 : 45 ≤ N := by omega
  have hN2 : N ≤ 180 := by omega
  have Hn := Lib.hid hn
  have hmk : ∀ W, (Instr.makeSlice 22 (.int .i64 ((n : Nat) : Int)) (.int .i64 ((n : Nat) : Int))).run Try.prog W = .ok (.slice (some ⟨W.heap.size, 0, none⟩) n n) (W.alloc (.cells (List.replicate n (Value.bool false)).toArray 4)) := by
    exact fun W => run_make_n (P := Try.prog) 22 4 i0 (Value.bool false) Try.underlying22 hi0 hz0 hz1 rfl .i64 .i64 n n (Nat.le_refl _) (by omega) (by omega) W
  have hnone : ∀ (W : World) (x : Nat), Blk W x 4 (Array.replicate n (Value.bool false)) → OwnO fB W x 4 (some ⟨x, 0, none⟩) n (noneL n) := fun W x hb =>
    (OwnL.of_blk (xs := noneL n) (lo := x) (f := fB) (by simpa [noneL] using hb) (Nat.le_refl _) (by simp [noneL, maxLen]; omega)).o |> fun h => by simpa [noneL] using h
  have Hnone := Lib.hid hnone
  have hb1 : decide (N < 0) = false := by simpa using hneg
  have hb2 : decide ((n : Int) < 2) = false := by simpa using hst2
  -- the goal's reckoning
  obtain ⟨r, hr⟩ : ∃ r, r = len % (n - 1) := ⟨_, rfl⟩
  have hrl : r < n - 1 := by rw [hr]; exact Nat.mod_lt _ (by omega)
  rw [← hr] at hgd
  have e1 : IntKind.i64.wrap ((now : Int) + 1) = (now : Int) + 1 := by simp [IntKind.wrap, IntKind.bits, IntKind.signed]; omega
  have e2 : IntKind.i64.wrap ((n : Int) - 1) = (((n - 1 : Nat)) : Int) := by rw [Int.natCast_sub (by omega)]; simp [IntKind.wrap, IntKind.bits, IntKind.signed]; omega
  have e3 : (len : Int).tmod ((n - 1 : Nat) : Int) = (r : Int) := by rw [Int.tmod_eq_emod_of_nonneg (by omega), hr, Int.natCast_emod]
  have e3' : (len : Int) % ((n - 1 : Nat) : Int) = (r : Int) := by rw [hr, Int.natCast_emod]
  have e4 : IntKind.i64.wrap ((now : Int) + 1 + (r : Int)) = (now : Int) + 1 + (r : Int) := by simp [IntKind.wrap, IntKind.bits, IntKind.signed]; omega
  have e5 : ((now : Int) + 1 + (r : Int)).tmod (n : Int) = (g : Int) := by
    rw [Int.tmod_eq_emod_of_nonneg (by omega), hgd, Int.natCast_emod]
    simp
  have e5' : ((now : Int) + 1 + (r : Int)) % (n : Int) = (g : Int) := by
    rw [hgd, Int.natCast_emod]
    simp
  have hne0 : ((n : Int) - 1 == 0) = false := by simp; omega
  have hne1 : ((n : Int) == 0) = false := by simp; omega
  clear hr hgd hbv hv hst hn hws hgz honly hbd hg hneg hst2 hnow hnone
  have hgal := ba.lt
  go_wp2_with fail
  go_quiet (fail)
  have hwn4 := hB.size
  have hon := (Hnone.out _ _ (Blk.new w4 4 (Array.replicate n (Value.bool false)))).below (below_drewN (Below.refl _ _) nq)
  have bal := ba.alloc (.cells (Array.replicate n (Value.bool false)) 4)
  replace ba := bal.below (below_drewN (Below.refl _ _) nq) bal.lt
  clear bal
  replace hB := below_drewN (hB.alloc hB.size (.cells (Array.replicate n (Value.bool false)) 4)) nq
  generalize (w4.alloc (.cells (Array.replicate n (Value.bool false)) 4)).drewN nq = wq at *
  have hw4 := hon.lt w4.heap.size rfl
  have hgs : ga ≠ w4.heap.size := by omega
  have hw0 := hB.size
  generalize w4.heap.size = gs at *
  obtain ⟨gw, ow, ew, hcw, hfw, -, -⟩ := hon.at (k := g) (by rw [hln]; exact hgl)
  injection ew with ew
  injection ew with ew ew'
  subst ew ew'
  have hs := hon.set (k := g) (x := true) (by rw [hln]; exact hgl)
  simp only [Nat.zero_add, fB] at hcw hfw hs
  have hw5 := hB.setCell (p := ⟨gs, g, none⟩) hwn4 (.bool true)
  have hba := ba.far (p := ⟨gs, g, none⟩) (by simpa using hgs) (.bool true)
  clear ba hon hB e1 e2 e3 e3' e4 e5 e5' hne0 hne1 a0 a1 a2 a3 a4 a5
  obtain ⟨a0, a1, a2, a3, a4, a5⟩ := loadT hba
  go_wp2_with fail
  have hbx := Blk.new (wq.setCell ⟨gs, g, none⟩ (.bool true)) 27 #[.int .i64 (n : Int), .int .i64 (now : Int), .int .i64 pa, .int .i64 qu, .int .i64 le, .slice (some ⟨gs, 0, none⟩) n n]
  have hbx' : Blk ((wq.setCell ⟨gs, g, none⟩ (.bool true)).alloc (.cells #[.int .i64 (n : Int), .int .i64 (now : Int), .int .i64 pa, .int .i64 qu, .int .i64 le, .slice (some ⟨gs, 0, none⟩) n n] 27)) wq.heap.size 27 (acC ⟨(n : Int), (now : Int), pa, qu, le, (noneL n).set g true⟩ (some ⟨gs, 0, none⟩) n) := by
    simp only [acC, List.length_set, hln]
    simpa using hbx
  replace hs := hs.alloc (.cells #[.int .i64 (n : Int), .int .i64 (now : Int), .int .i64 pa, .int .i64 qu, .int .i64 le, .slice (some ⟨gs, 0, none⟩) n n] 27)
  replace hba := hba.alloc (.cells #[.int .i64 (n : Int), .int .i64 (now : Int), .int .i64 pa, .int .i64 qu, .int .i64 le, .slice (some ⟨gs, 0, none⟩) n n] 27)
  replace hw5 := hw5.alloc (by simp; omega) (.cells #[.int .i64 (n : Int), .int .i64 (now : Int), .int .i64 pa, .int .i64 qu, .int .i64 le, .slice (some ⟨gs, 0, none⟩) n n] 27)
  have hnx : ∀ b, blk (some (⟨gs, 0, none⟩ : Addr)) = some b → b ≠ wq.heap.size := fun b h => by simp at h; omega
  have hgx : w.heap.size ≤ wq.heap.size := by omega
  have hgax : ga ≠ wq.heap.size := by have := hba.lt; simp at this; omega
  generalize (wq.setCell ⟨gs, g, none⟩ (.bool true)).alloc (.cells #[.int .i64 (n : Int), .int .i64 (now : Int), .int .i64 pa, .int .i64 qu, .int .i64 le, .slice (some ⟨gs, 0, none⟩) n n] 27) = wv at *
  generalize wq.heap.size = gx at *
  have hs' := hs.mono hwn4
  clear hbx hs a0 a1 a2 a3 a4 a5 hcw hfw hgs
  have Hln := Lib.hid hln
  clear hln
  go_loopw [8] (fun i wr => ∃ k : Nat, (k : Int) ≤ N ∧ i = .int .i64 k ∧ (∀ j, j < k → (iterS ⟨(n : Int), (now : Int), pa, qu, le, (noneL n).set g true⟩ (noneL n) j).now ≠ (g : Int)) ∧ (∃ Ax cx, Blk wr gx 27 (acC (iterS ⟨(n : Int), (now : Int), pa, qu, le, (noneL n).set g true⟩ (noneL n) k) Ax cx) ∧ OwnO fB wr w.heap.size 4 Ax cx (iterS ⟨(n : Int), (now : Int), pa, qu, le, (noneL n).set g true⟩ (noneL n) k).wa ∧ (∀ b, blk Ax = some b → b ≠ gx)) ∧ Blk wr ga 27 (acC ⟨(n : Int), (now : Int), pa, qu, le, wa⟩ A1 c1) ∧ Below w.heap.size w wr) (fun i _ => (N - intOf i).toNat)
  case atStart => exact ⟨0, by omega, rfl, fun j hj => by omega, ⟨_, n, hbx', hs', hnx⟩, hba, hw5⟩
  case round =>
    clear hbx' hs' hnx hba hw5
    obtain ⟨k, hk, rfl, hj, ⟨Ax, cx, hbx, ho, hne⟩, hba, hB⟩ := hrel
    obtain ⟨hgk, hgl2, -⟩ := hgood.out k
    have hxs : stepG (iterS ⟨(n : Int), (now : Int), pa, qu, le, (noneL n).set g true⟩ (noneL n) k) (noneL n) = iterS ⟨(n : Int), (now : Int), pa, qu, le, (noneL n).set g true⟩ (noneL n) (k + 1) := by rw [stepG, if_pos (okA_of hgk hgl2)]; rfl
    have hfin := Lib.hid (fun h10 => hend.out k h10 hj)
    have hnext := Lib.hid (fun (hx : (iterS ⟨(n : Int), (now : Int), pa, qu, le, (noneL n).set g true⟩ (noneL n) k).now ≠ (g : Int)) j (hj2 : j < k + 1) => show (iterS ⟨(n : Int), (now : Int), pa, qu, le, (noneL n).set g true⟩ (noneL n) j).now ≠ (g : Int) from by
      by_cases e : j = k
      · subst e; exact hx
      · exact hj j (by omega))
    obtain ⟨x1, hx1⟩ : ∃ x1, x1 = iterS ⟨(n : Int), (now : Int), pa, qu, le, (noneL n).set g true⟩ (noneL n) (k + 1) := ⟨_, rfl⟩
    obtain ⟨x, hx⟩ : ∃ x, x = iterS ⟨(n : Int), (now : Int), pa, qu, le, (noneL n).set g true⟩ (noneL n) k := ⟨_, rfl⟩
    rw [← hx1] at hxs
    rw [← hx] at hgk hxs hbx ho
    have Hx1 := Lib.hid hx1
    have Hx := Lib.hid hx
    have Hxs := Lib.hid hxs
    clear hx1 hx hgl2 hxs hj
    by_cases hgo : (k : Int) < N ∧ x.now ≠ (g : Int)
    case neg =>
      have hxg : x.now = (g : Int) := by
        by_cases hlt : (k : Int) < N
        · exact Classical.byContradiction fun h => hgo ⟨hlt, h⟩
        · have := hfin.out (by omega)
          rw [Hx.out]
          exact this
      have t1 : (x.now == (g : Int)) = true := by simpa using hxg
      have t2 : (x.now != (g : Int)) = false := by simpa using hxg
      obtain ⟨f0, f1, f2, f3, f4, f5⟩ := loadT hbx
      clear hbx hba ho hxg hgo
      by_cases hlt : (k : Int) < N
      all_goals
        go_wp2_with fail
        go_ret
        exact ⟨rfl, hB⟩
    obtain ⟨hlt, hxg⟩ := hgo
    have t2 : (x.now != (g : Int)) = true := by simpa using hxg
    have hN3 := Lib.hid (hnext.out (by rw [← Hx.out]; exact hxg))
    obtain ⟨f0, f1, f2, f3, f4, f5⟩ := loadT hbx
    clear hxg hfin hnext
    go_wp2_with fail
    clear f0 f1 f2 f3 f4 f5
    obtain ⟨S, hS⟩ : ∃ S : World → Prop, S = fun y => Blk y ga 27 (acC ⟨(n : Int), (now : Int), pa, qu, le, wa⟩ A1 c1) ∧ Blk y gx 27 (acC x Ax cx) := ⟨_, rfl⟩
    have hS1 : ∀ y, S y → Blk y ga 27 (acC ⟨(n : Int), (now : Int), pa, qu, le, wa⟩ A1 c1) := fun y h => by rw [hS] at h; exact h.1
    have hS2 : ∀ y, S y → Blk y gx 27 (acC x Ax cx) := fun y h => by rw [hS] at h; exact h.2
    have hS3 : ∀ y, Blk y ga 27 (acC ⟨(n : Int), (now : Int), pa, qu, le, wa⟩ A1 c1) → Blk y gx 27 (acC x Ax cx) → S y := fun y h1 h2 => by rw [hS]; exact ⟨h1, h2⟩
    obtain ⟨k0, k1, k2, k3, k4, k5⟩ := held_cells hS1
    obtain ⟨j0, j1, j2, j3, j4, j5⟩ := held_cells hS2
    have HS3 := Lib.hid hS3
    clear hS hS1 hS2 hS3
    refine wp_region_mix S [(0, 0), (0, 1), (0, 2), (1, 3), (1, 4)] [5] (by kernel_rfl) (by kernel_rfl) (HS3.out _ hba.drew hbx.drew) ?_
    intro hne1
    simp only [mixOps, List.filterMap_cons, List.filterMap_nil, List.getElem?_toArray, List.getElem?_cons_zero, List.getElem?_cons_succ, Option.map_some]
    replace hba := hba.drew
    replace hbx := hbx.drew
    replace hB := hB.drew
    replace ho := ho.drew
    generalize wr.drew = wd at *
    repeat (refine mix_early (fun K hK => ?_); go_simp; refine hK _ ?_; clear hK K)
    have hnd := (Hnone.out _ _ (Blk.new wd 4 (Array.replicate n (Value.bool false)))).rd
    have hst := fun W hr hc => iStepG_any x (noneL n) Ax (some ⟨wd.heap.size, 0, none⟩) cx n W hr hc
    simp only [Hln.out, Hxs.out] at hst
    refine mix_late rfl (fun K hK => ?_)
    go_wp2_with fail
    refine ⟨HS3.out _ (hba.alloc _) (hbx.alloc _), ?_⟩
    replace hba := hba.alloc (.cells (Array.replicate n (Value.bool false)) 4)
    replace hbx := hbx.alloc (.cells (Array.replicate n (Value.bool false)) 4)
    replace ho := ho.alloc (.cells (Array.replicate n (Value.bool false)) 4)
    replace hB := hB.alloc hB.size (.cells (Array.replicate n (Value.bool false)) 4)
    generalize hgw : wd.alloc (.cells (Array.replicate n (Value.bool false)) 4) = we at *
    clear hgw
    refine mix_late rfl (fun K hK => ?_)
    go_wp2_with fail
    refine (hst _ ho.rd hnd).mono ?_
    rintro e w30 ⟨A7, c7, rfl, h7, v0⟩
    have hn7 := own_ne h7 gx (.inl hbx.lt)
    have h7b := h7.mono hB.size
    replace hba := hba.below v0 hba.lt
    replace hbx := hbx.below v0 hbx.lt
    replace hB := hB.trans (v0.mono hB.size)
    clear v0 ho hnd hst h7
    go_wp2_with fail
    refine ⟨HS3.out _ hba hbx, ?_⟩
    refine mix_nil ?_
    simp only [tailT, List.filterMap_cons, List.filterMap_nil, List.getElem?_toArray, List.getElem?_cons_zero, List.getElem?_cons_succ]
    clear k0 k1 k2 k3 k4 k5 j0 j1 j2 j3 j4 j5 HS3 hne1
    obtain ⟨f0, f1, f2, f3, f4, f5⟩ := loadT hbx
    have hff := hbx.frozen
    have hbx2 := hbx.set6 (v0 := .int .i64 x1.st) (v1 := .int .i64 x1.now) (v2 := .int .i64 x1.pa) (v3 := .int .i64 x1.qu) (v4 := .int .i64 x1.le) (v5 := .slice A7 x1.wa.length c7)
    have hba2 := hba.grown (only_set6 w30 gx (.int .i64 x1.st) (.int .i64 x1.now) (.int .i64 x1.pa) (.int .i64 x1.qu) (.int .i64 x1.le) (.slice A7 x1.wa.length c7)) (fun e => hgax (by injection e))
    have h72 := own_set6 (g := gx) (v0 := .int .i64 x1.st) (v1 := .int .i64 x1.now) (v2 := .int .i64 x1.pa) (v3 := .int .i64 x1.qu) (v4 := .int .i64 x1.le) (v5 := .slice A7 x1.wa.length c7) h7b hn7
    have hB2 := below_set6 (g := gx) (v0 := .int .i64 x1.st) (v1 := .int .i64 x1.now) (v2 := .int .i64 x1.pa) (v3 := .int .i64 x1.qu) (v4 := .int .i64 x1.le) (v5 := .slice A7 x1.wa.length c7) hB hgx
    have HBX := Lib.hid hbx2
    have HBA := Lib.hid hba2
    have HO := Lib.hid h72
    clear hbx hba hbx2 hba2 h7b h72
    refine wpLateC_tail rfl (fun K hK => ?_)
    go_wp2_with fail
    refine wpLateC_nil (NoPanic.normal ?_)
    go_wp2_with fail
    go_roundw
    case rel => exact ⟨k + 1, by omega, by go_num, hN3.out, ⟨A7, c7, by rw [← Hx1.out]; exact HBX.out, by rw [← Hx1.out]; exact HO.out, hn7⟩, HBA.out, hB2⟩
    case measure => simp [intOf]; omega

set_option maxRecDepth 100000 in
theorem lifted (os : Os) (started : os.Started) (H : Type) (enc : TypeId × Value → H) :
    ReturnsInHanded {} Try.checked os 6 .any (Rows.fnWaitBoundOneSpec.pre6 enc Try.prog Try.f6 Rows.fnWaitBoundOneRow.domain false) (Rows.fnWaitBoundOneSpec.post enc Try.prog Try.f6 false true false false) := by
  refine returnsInHanded_of_change (C := Try.checked) own started (by kernel_rfl) Try.func6
    (ChangeSpec.witness6 (enc := enc) (C := Try.checked) false ⟨#[], #[.slice none 0 0], []⟩ 8 (by kernel_rfl) (by kernel_rfl) (by kernel_rfl) (by kernel_rfl)) ?_
  intro W base args ds gs before hval0 hW hcnd _
  have hval : ∀ (j : Nat) t v, Try.f6.params[j]? = some t → args[j]? = some v → Value.okWide Try.prog W .any base t v := hval0
  have hW' := hW
  obtain ⟨p, q, hA0, hV, rfl, hfz, hnd⟩ := hW
  have hA : DataW.TrodAll enc Try.prog W 0 (fun _ => true) true Try.f6.params.toList args.toList ds p := hA0
  rw [Try.params6] at hA hval
  obtain ⟨v0, vs0, d0, ds0, p0, q0, hargs, rfl, rfl, h0, r0⟩ := trodAll_cons hA
  obtain ⟨rfl, rfl, rfl⟩ := trodAll_nil r0
  obtain rfl : args = #[v0] := by cases args; simp_all
  obtain ⟨rfl, rfl⟩ := trodVars_none hV
  have k0 := h0
  have lt0 : ∀ x ∈ p0, x.block < W.heap.size := by obtain ⟨m, hm⟩ := k0; exact DataW.trod_lt m _ _ _ hm
  obtain ⟨a0, len0, cap0, rfl⟩ := okWide_slice Try.underlying32 (hval 0 32 v0 rfl rfl)
  obtain ⟨w0, hc0⟩ := open_bytes Try.underlying32 Try.underlying5 (by kernel_rfl) h0
  clear hA0 hval0
  refine (walk a0 len0 cap0 W w0 hc0).mono fun e W' ⟨he, bel⟩ => ?_
  subst he
  exact ⟨_, rfl, _, _, _, [], _, [], hW', trodAll_mk1 (shut_bool Try.underlying4 _), (trodAll_cons_mk (Below.trod laidOut (by kernel_rfl) (of_decide_eq_true (by kernel_rfl)) k0 bel lt0) trodAll_mk0), rfl, bel.frame _, fun h => by cases h⟩

theorem over : Rows.fnWaitBoundOneRow.holds Try.pinned (OpenSpec.ofChange Rows.fnWaitBoundOneSpec) :=
  OpenClaim.holds_of_wide 6 Try.f6 rfl rfl rfl rfl rfl rfl rfl ⟨rfl, rfl, rfl, rfl, rfl⟩ rfl rfl rfl rfl rfl (by kernel_rfl) Try.func6 (by kernel_rfl)
    (of_decide_eq_true (by kernel_rfl)) (by unfold Func.isWrapper; first | (rw [if_pos (by decide +kernel)]; kernel_rfl) | (rw [if_neg (by decide +kernel)]; exact ⟨rfl, rfl⟩))
    (fun os started H enc _ => lifted os started H enc)

theorem proved : Rows.FnWaitBoundOneSaid := over
end Go.Proofs.Ytoadkefajobgnaa.FnWaitBoundOne
