/-
  The statement FnWaitBound: every wish is granted in time.
-/
import Derived.Test.YtoadkefajobgnaaOpen
import Derived.Test.YtoadkefajobgnaaAcStepA
import Derived.Test.YtoadkefajobgnaaAcEx
import Derived.Test.YtoadkefajobgnaaAcDraw2
import Derived.Test.YtoadkefajobgnaaAcLaw
namespace Go.Proofs.Ytoadkefajobgnaa.FnWaitBound
open Go.RowKit Go.ChangeShapes Go.WideShapes Go.ChangeAt Go.Proofs.Ytoadkefajobgnaa
set_option linter.unusedVariables false

theorem sepT {α β : Type} {f : α → Value} {g : β → Value} {w : World} {lo lo' : Nat} {T T' : TypeId} {A B : Option Addr} {c d : Nat} {xs : List α} {ys : List β} (h : OwnO f w lo T A c xs) (h' : OwnO g w lo' T' B d ys) (hne : T ≠ T') : Sep A B := by
  intro b h1 h2
  rcases h with ⟨rfl, _⟩ | ⟨g1, o1, cur, rfl, _, hb, _⟩
  · simp at h1
  rcases h' with ⟨rfl, _⟩ | ⟨g2, o2, cur2, rfl, _, hb2, _⟩
  · simp at h2
  simp at h1 h2
  subst h1 h2
  unfold Blk at hb hb2
  rw [hb] at hb2
  injection hb2 with e
  injection e with _ e2
  exact hne e2
theorem neT {α : Type} {f : α → Value} {w : World} {lo : Nat} {T T' : TypeId} {A : Option Addr} {c g : Nat} {xs : List α} {cs : Array Value} (h : OwnO f w lo T A c xs) (hb' : Blk w g T' cs) (hne : T ≠ T') : ∀ b, blk A = some b → b ≠ g := by
  intro b h1 e
  rcases h with ⟨rfl, _⟩ | ⟨g1, o1, cur, rfl, _, hb, _⟩
  · simp at h1
  simp at h1
  subst h1 e
  unfold Blk at hb hb'
  rw [hb] at hb'
  injection hb' with e
  injection e with _ e2
  exact hne e2

theorem isIn_any (zs : List Int) (x : Int) (A : Option Addr) (cap : Nat) (w : World) (hr : RdL fI w A zs) (hn : zs.length ≤ 1000000) (hx : x ∈ zs) :
    Calls Try.prog 23 #[.slice A zs.length cap, .int .i64 x] w fun e w' => e = .returned (.bool true) ∧ w = w' := by
  go_enter Try.func23, Try.ntmps23
  go_wp2_with fail
  go_loop [5] (fun i => ∃ k : Nat, k ≤ zs.length ∧ i = .int .i64 k ∧ x ∉ zs.take k) (fun i => zs.length - (intOf i).toNat)
  case atStart => exact ⟨0, Nat.zero_le _, rfl, by simp⟩
  case round =>
    obtain ⟨k, hk, rfl, hp⟩ := hrel
    by_cases hlt : k < zs.length
    · obtain ⟨b, o, rfl, hc⟩ := hr.at hlt
      by_cases he : zs[k] = x
      · have h1 : (zs[k] == x) = true := by simpa using he
        clear hr hp hx he
        generalize zs[k] = y at *
        go_wp2_with fail
        go_ret
        exact ⟨rfl, rfl⟩
      · have h1 : (zs[k] == x) = false := by simpa using he
        have hN := Lib.hid (show x ∉ zs.take (k + 1) from fun hm => by
          rw [List.take_succ_eq_append_getElem hlt] at hm
          rcases List.mem_append.mp hm with h | h
          · exact hp h
          · simp at h; exact he h.symm)
        clear hr hp hx he
        generalize zs[k] = y at *
        go_wp2_with fail
        go_round
        case rel => exact ⟨k + 1, by omega, by go_num, hN.out⟩
        case measure => simp [intOf]; omega
    · obtain rfl : k = zs.length := by omega
      rw [List.take_length] at hp
      exact absurd hx hp

def nows (a : Ctl) (cars : List Bool) (k : Nat) : List Int := (List.range (k + 1)).map fun i => (iterS a cars i).now
theorem nows_len (a : Ctl) (cars : List Bool) (k : Nat) : (nows a cars k).length = k + 1 := by simp [nows]
theorem nows_succ (a : Ctl) (cars : List Bool) (k : Nat) : nows a cars (k + 1) = nows a cars k ++ [(iterS a cars (k + 1)).now] := by
  rw [nows, List.range_succ, List.map_append]; rfl
theorem nows_mem {a : Ctl} {cars : List Bool} {k j : Nat} (h : j ≤ k) : (iterS a cars j).now ∈ nows a cars k :=
  List.mem_map.mpr ⟨j, by simp; omega, rfl⟩

set_option maxHeartbeats 3200000 in
theorem walk (A : Option Addr) (len cap : Nat) (w : World) (h : Bytes w A len) (hc : len ≤ cap) :
    Calls Try.prog 7 #[.slice A len cap] w fun e w' => e = .returned (.bool true) ∧ Below w.heap.size w w' := by
  obtain ⟨i0, hi0, hz0, hz1, hz2⟩ := info_parts info_Bool
  obtain ⟨i1, hi1, hy0, hy1, hy2⟩ := info_parts info_Int
  by_cases hl1 : 1048576 < len
  · go_enter Try.func7, Try.ntmps7
    go_wp2_with fail
    go_ret
    exact ⟨rfl, Below.refl _ _⟩
  go_enter Try.func7, Try.ntmps7
  go_wp2_with fail
  refine (drawWaitBound_any _ A len cap h hc).mono ?_
  rintro e w1 ⟨a, A1, c1, rfl, ⟨ha1, ha2, ha3⟩, ho1, hB⟩
  clear h
  go_wp2_with fail
  have ba := Blk.new w1 27 (acC a A1 c1)
  replace ho1 := ho1.alloc (.cells (acC a A1 c1) 27)
  have hga0 := hB.size
  replace hB := hB.alloc hB.size (.cells (acC a A1 c1) 27)
  generalize w1.alloc (.cells (acC a A1 c1) 27) = w2 at *
  generalize w1.heap.size = ga at *
  refine (iBoundA_any a A1 c1 _).mono ?_
  rintro e w3 ⟨rfl, v0⟩
  replace ba := ba.below v0 ba.lt
  replace ho1 := ho1.below v0
  replace hB := hB.trans (v0.mono hB.size)
  clear v0
  obtain ⟨a0, a1, a2, a3, a4, a5⟩ := loadT ba
  go_wp2_with fail
  refine (sBoundA_any a A1 c1 _).mono ?_
  rintro e w4 ⟨rfl, v0⟩
  replace ba := ba.below v0 ba.lt
  replace ho1 := ho1.below v0
  replace hB := hB.trans (v0.mono hB.size)
  clear v0 a0 a1 a2 a3 a4 a5
  obtain ⟨a0, a1, a2, a3, a4, a5⟩ := loadT ba
  have hbv : boundA a < 0 ∨ (validA a = true ∧ boundA a = (a.st - 1) * 45) := by
    unfold boundA
    cases hv : validA a with
    | false => exact .inl (by simp)
    | true => exact .inr ⟨rfl, by simp⟩
  obtain ⟨N, hN⟩ : ∃ N, N = boundA a := ⟨_, rfl⟩
  have HN := Lib.hid hN
  rw [← hN] at hbv ⊢
  clear hN
  by_cases hneg : N < 0
  · have hb1 : decide (N < 0) = true := by simpa using hneg
    clear hbv
    go_wp2_with fail
    refine (sBoundA_any a A1 c1 _).mono ?_
    rw [← HN.out]
    rintro e w5 ⟨rfl, v0⟩
    replace hB := hB.trans (v0.mono hB.size)
    clear v0
    go_wp2_with fail
    go_ret
    exact ⟨rfl, hB⟩
  obtain ⟨hv, hbd⟩ := hbv.resolve_left hneg
  have hg := validA_iff.mp hv
  have hst := hg.wa
  have hst5 := hg.st
  obtain ⟨n, hn⟩ : ∃ n, n = a.wa.length := ⟨_, rfl⟩
  have hn1 : 1 ≤ n := by omega
  have hn5 : n ≤ 5 := by omega
  have hnst : (n : Int) = a.st := by omega
  have hla : (allL n).length = n := List.length_replicate
  have hgood := Lib.hid (fun k => iterS_good (cars := allL n) hg (by rw [hla, hn]) k)
  have hseen := Lib.hid (fun (i : Nat) (hi : i < n) => show ∃ j, j ≤ 45 * (n - 1) ∧ (iterS a (allL n) j).now = i by
    have := all_seen hg (i := i) (by omega)
    rwa [← hn] at this)
  obtain ⟨M, hM⟩ : ∃ M, M = 45 * (n - 1) := ⟨_, rfl⟩
  have hNM : N = (M : Int) := by omega
  have hM180 : M ≤ 180 := by omega
  have hN0 : decide (N < 0) = false := by simpa using hneg
  subst hNM
  have Hnst := Lib.hid hnst
  have Hla := Lib.hid hla
  have HM := Lib.hid hM
  clear hbd hv hst hn hnst hla hM hg hneg
  have hA := (OwnL.of_cap (lo := w4.heap.size) (cap := 0) fB (Blk.new w4 4 #[]) (Nat.le_refl _) rfl (by simp [maxLen])).o
  have hw4 := hB.size
  rw [← Hnst.out] at a0
  have hgal := ba.lt
  go_wp2_with fail
  clear a0 a1 a2 a3 a4 a5
  go_loopw [5, 6] (fun v6 i wr => ∃ k : Nat, k ≤ n ∧ i = .int .i64 k ∧ (∃ xs Ax cx, v6 = .slice Ax xs.length cx ∧ OwnO fB wr w4.heap.size 4 Ax cx xs ∧ xs = allL k) ∧ Below w4.heap.size w4 wr) (fun _ i _ => n - (intOf i).toNat)
  case atStart => exact ⟨0, Nat.zero_le _, rfl, ⟨[], _, _, rfl, hA, rfl⟩, (Below.refl _ _).alloc (Nat.le_refl _) _⟩
  case round =>
    clear hA
    obtain ⟨k, hk, rfl, ⟨xs, Ax, cx, rfl, ho, hxs⟩, hbel⟩ := hrel
    have Hxs := Lib.hid hxs
    have hxl : xs.length ≤ k := by rw [hxs]; simp [allL]
    clear hxs
    have hbr := ba.below hbel ba.lt
    obtain ⟨a0, a1, a2, a3, a4, a5⟩ := loadT hbr
    rw [← Hnst.out] at a0
    have hszr := hbel.size
    by_cases hlt : k < n
    · have hol := ho.lt
      clear ba hbr ho1
      go_wp2_with (at_builtin; go_must (refine wpList_pushO rfl (.tmp 37) (.tmp 38) 22 rfl i0 _ 1 Try.underlying22 hi0 hz0 hz1 hz2 rfl rfl (ho.alloc _) wr.heap.size true rfl (cell_new _ _ _) rfl (by omega) (by omega) (by simp; omega) ?_); intro A3 c3 w6 ho3 hg3 hb3)
      have hbel3 := below_push hszr hbel hol hg3
      go_roundw
      case rel => exact ⟨k + 1, by omega, by go_num, ⟨_, A3, c3, by simp, ho3, by rw [Hxs.out]; simp [allL, List.replicate_succ']⟩, hbel3⟩
      case measure => simp [intOf]; omega
    · obtain rfl : k = n := by omega
      have hx := Hxs.out
      subst hx
      replace hB := hB.trans (hbel.mono hw4)
      replace ho1 := ho1.below hbel
      have hos := ho.mono hw4
      clear hbel ba a0 ho
      obtain ⟨a0, -, -, -, -, -⟩ := loadT hbr
      have hd : decide (((k : Nat) : Int) < a.st) = false := by have := Hnst.out; simp; omega
      have hgbr := hbr.lt
      go_wp2_with fail
      have hwr := hB.size
      have hsn : OwnO fI ((wr.alloc (.cells #[.int .i64 a.now] 3)).alloc (.cells (acC a A1 c1) 27)) w.heap.size 3 (some ⟨wr.heap.size, 0, none⟩) 1 (nows a (allL k) 0) :=
        (((OwnL.of_blk (xs := nows a (allL k) 0) (lo := wr.heap.size) (f := fI) (w := wr.alloc (.cells #[.int .i64 a.now] 3)) (g := wr.heap.size) (e := 3) (Blk.new wr 3 #[.int .i64 a.now]) (Nat.le_refl _) (by simp [nows, maxLen])).o).alloc _).mono hwr
      have hbx := Blk.new2 wr (.cells #[.int .i64 a.now] 3) 27 (acC a A1 c1)
      have hba := (hbr.alloc (.cells #[.int .i64 a.now] 3)).alloc (.cells (acC a A1 c1) 27)
      replace ho1 := ((ho1.alloc (.cells #[.int .i64 a.now] 3)).alloc (.cells (acC a A1 c1) 27)).mono (show w.heap.size ≤ w.heap.size from Nat.le_refl _)
      replace hos := (hos.alloc (.cells #[.int .i64 a.now] 3)).alloc (.cells (acC a A1 c1) 27)
      have hB5 := (hB.alloc hwr (.cells #[.int .i64 a.now] 3)).alloc (by simp; omega) (.cells (acC a A1 c1) 27)
      have hgx : w.heap.size ≤ wr.heap.size + 1 := by omega
      have hgax : ga ≠ wr.heap.size + 1 := by omega
      clear hbr hB a0 hd hgbr
      generalize (wr.alloc (.cells #[.int .i64 a.now] 3)).alloc (.cells (acC a A1 c1) 27) = w5 at *
      generalize hgsx : wr.heap.size + 1 = gx at *
      clear hgsx
      obtain ⟨As0, hAs0⟩ : ∃ As0, As0 = (some ⟨wr.heap.size, 0, none⟩ : Option Addr) := ⟨_, rfl⟩
      rw [← hAs0] at hsn ⊢
      clear hAs0
      have ho1' := ho1.mono (show w.heap.size ≤ _ from Nat.le_refl _)
      go_loopw [7, 9] (fun v7 i wq => ∃ t : Nat, t ≤ M ∧ i = .int .i64 t ∧ (∃ As cs, v7 = .slice As (t + 1) cs ∧ OwnO fI wq w.heap.size 3 As cs (nows a (allL k) t)) ∧ (∃ A2 c2, Blk wq gx 27 (acC (iterS a (allL k) t) A2 c2) ∧ OwnO fB wq w.heap.size 4 A2 c2 (iterS a (allL k) t).wa) ∧ OwnO fB wq w.heap.size 4 Ax cx (allL k) ∧ Blk wq ga 27 (acC a A1 c1) ∧ Below w.heap.size w wq) (fun _ i _ => M - (intOf i).toNat)
      case atStart => exact ⟨0, Nat.zero_le _, rfl, ⟨As0, 1, rfl, hsn⟩, ⟨A1, c1, hbx, ho1'⟩, hos, hba, hB5⟩
      case round =>
        clear hsn hbx ho1' ho1 hos hba hB5
        obtain ⟨t, ht, rfl, ⟨As, cs, rfl, hsn⟩, ⟨A2, c2, hbx, ho2⟩, hos, hba, hB⟩ := hrel
        obtain ⟨hgt, hgl, -⟩ := hgood.out t
        have hxs : stepG (iterS a (allL k) t) (allL k) = iterS a (allL k) (t + 1) := by rw [stepG, if_pos (okA_of hgt hgl)]; rfl
        have hnl := nows_len a (allL k) t
        by_cases hlt : t < M
        · have hsuc := Lib.hid (nows_succ a (allL k) t)
          obtain ⟨x1, hx1⟩ : ∃ x1, x1 = iterS a (allL k) (t + 1) := ⟨_, rfl⟩
          obtain ⟨x, hx⟩ : ∃ x, x = iterS a (allL k) t := ⟨_, rfl⟩
          rw [← hx1] at hxs
          rw [← hx] at hxs hbx ho2
          have Hx1 := Lib.hid hx1
          have Hxs2 := Lib.hid hxs
          have Hnl := Lib.hid hnl
          have hst := iStepG_any x (allL k) A2 Ax c2 cx _ ho2.rd hos.rd
          rw [hxs] at hst
          have hcl : (allL k).length ≤ 5 := by have := Hla.out; omega
          clear hx1 hx hxs hnl hgl hgt
          obtain ⟨f0, f1, f2, f3, f4, f5⟩ := loadT hbx
          go_wp2_with fail
          refine hst.mono ?_
          rintro e w6 ⟨A7, c7, rfl, h7, v0⟩
          have h7b := h7.mono hB.size
          replace hba := hba.below v0 hba.lt
          replace hbx := hbx.below v0 hbx.lt
          replace hsn := hsn.below v0
          replace hos := hos.below v0
          replace hB := hB.trans (v0.mono hB.size)
          clear v0 hst h7 ho2 f0 f1 f2 f3 f4 f5
          have hs2 := own_set6 (g := gx) (v0 := .int .i64 x1.st) (v1 := .int .i64 x1.now) (v2 := .int .i64 x1.pa) (v3 := .int .i64 x1.qu) (v4 := .int .i64 x1.le) (v5 := .slice A7 x1.wa.length c7) hsn (neT hsn hbx (by decide))
          have ho7 := own_set6 (g := gx) (v0 := .int .i64 x1.st) (v1 := .int .i64 x1.now) (v2 := .int .i64 x1.pa) (v3 := .int .i64 x1.qu) (v4 := .int .i64 x1.le) (v5 := .slice A7 x1.wa.length c7) h7b (neT h7b hbx (by decide))
          have hoa := own_set6 (g := gx) (v0 := .int .i64 x1.st) (v1 := .int .i64 x1.now) (v2 := .int .i64 x1.pa) (v3 := .int .i64 x1.qu) (v4 := .int .i64 x1.le) (v5 := .slice A7 x1.wa.length c7) hos (neT hos hbx (by decide))
          have hba2 := hba.grown (only_set6 w6 gx (.int .i64 x1.st) (.int .i64 x1.now) (.int .i64 x1.pa) (.int .i64 x1.qu) (.int .i64 x1.le) (.slice A7 x1.wa.length c7)) (fun e => hgax (by injection e))
          have hB2 := below_set6 (g := gx) (v0 := .int .i64 x1.st) (v1 := .int .i64 x1.now) (v2 := .int .i64 x1.pa) (v3 := .int .i64 x1.qu) (v4 := .int .i64 x1.le) (v5 := .slice A7 x1.wa.length c7) hB hgx
          obtain ⟨f0, f1, f2, f3, f4, f5⟩ := loadT hbx
          have hff := hbx.frozen
          have hbx2 := hbx.set6 (v0 := .int .i64 x1.st) (v1 := .int .i64 x1.now) (v2 := .int .i64 x1.pa) (v3 := .int .i64 x1.qu) (v4 := .int .i64 x1.le) (v5 := .slice A7 x1.wa.length c7)
          have hs2l := hs2.lt
          have hsz6 : (set6 w6 gx (.int .i64 x1.st) (.int .i64 x1.now) (.int .i64 x1.pa) (.int .i64 x1.qu) (.int .i64 x1.le) (.slice A7 x1.wa.length c7)).heap.size = w6.heap.size := by simp
          have hw6 := hB.size
          have HBX := Lib.hid hbx2
          have HBA := Lib.hid hba2
          have HO7 := Lib.hid ho7
          have HOA := Lib.hid hoa
          have HB2 := Lib.hid hB2
          have Hsz6 := Lib.hid hsz6
          clear hbx hba hsn hos h7b hB hbx2 hba2 ho7 hoa hB2 hsz6
          rw [← Hnl.out]
          go_wp2_with (at_builtin; go_must (refine wpList_pushO rfl (.tmp 52) (.tmp 55) 36 rfl i1 _ 8 Try.underlying36 hi1 hy0 hy1 hy2 rfl rfl (hs2.alloc (.cells #[.int .i64 x1.now] 3)) w6.heap.size x1.now rfl (by have := cell_new (set6 w6 gx (.int .i64 x1.st) (.int .i64 x1.now) (.int .i64 x1.pa) (.int .i64 x1.qu) (.int .i64 x1.le) (.slice A7 x1.wa.length c7)) (.int .i64 x1.now) 3; rwa [Hsz6.out] at this) rfl (by have := Hnl.out; omega) (by omega) (by have := Hsz6.out; simp; omega) ?_); intro A3 c3 w7 ho3 hg3 hb3)
          have hbx7 := (HBX.out.alloc (.cells #[.int .i64 x1.now] 3)).grown hg3 (fun e => neT hs2 HBX.out (by decide) _ e.symm rfl)
          have hba7 := (HBA.out.alloc (.cells #[.int .i64 x1.now] 3)).grown hg3 (fun e => neT hs2 HBA.out (by decide) _ e.symm rfl)
          have ho77 := (HO7.out.alloc (.cells #[.int .i64 x1.now] 3)).grown hg3 (sepT hs2 HO7.out (by decide)).or
          have hoa7 := (HOA.out.alloc (.cells #[.int .i64 x1.now] 3)).grown hg3 (sepT hs2 HOA.out (by decide)).or
          have hB7 := below_push HB2.out.size HB2.out hs2l hg3
          go_roundw
          case rel => exact ⟨t + 1, by omega, by go_num, ⟨A3, c3, by have := Hnl.out; simp [this], by rw [hsuc.out, ← Hx1.out]; exact ho3⟩, ⟨A7, c7, by rw [← Hx1.out]; exact hbx7, by rw [← Hx1.out]; exact ho77⟩, hoa7, hba7, hB7⟩
          case measure => simp [intOf]; omega
        · obtain rfl : t = M := by omega
          have hmem := Lib.hid (fun (j : Nat) (hj : j < k) => show (j : Int) ∈ nows a (allL k) t from by
            obtain ⟨jj, h1, h2⟩ := hseen.out j hj
            rw [← h2]
            exact nows_mem (by have := HM.out; omega))
          have hin := fun w hr (j : Nat) hm => isIn_any (nows a (allL k) t) (j : Int) As cs w hr (by omega) hm
          rw [hnl] at hin
          have hrd := hsn.rd
          obtain ⟨a0, -, -, -, -, -⟩ := loadT hba
          rw [← Hnst.out] at a0
          clear hsn hbx ho2 hos hba hgt hgl hxs hnl hseen
          go_wp2_with fail
          go_loop [10] (fun i => ∃ j : Nat, j ≤ k ∧ i = .int .i64 j) (fun i => k - (intOf i).toNat)
          case atStart => exact ⟨0, Nat.zero_le _, rfl⟩
          case round =>
            obtain ⟨j, hj, rfl⟩ := hrel
            by_cases hlj : j < k
            · have hh := hin _ hrd j (hmem.out j hlj)
              clear hin hrd
              go_wp2_with fail
              refine hh.mono ?_
              rintro e w8 ⟨rfl, rfl⟩
              go_wp2_with fail
              go_round
              case rel => exact ⟨j + 1, by omega, by go_num⟩
              case measure => simp [intOf]; omega
            · obtain rfl : j = k := by omega
              clear hin hrd
              go_wp2_with fail
              go_ret
              exact ⟨rfl, hB⟩

set_option maxRecDepth 100000 in
theorem lifted (os : Os) (started : os.Started) (H : Type) (enc : TypeId × Value → H) :
    ReturnsInHanded {} Try.checked os 7 .any (Rows.fnWaitBoundSpec.pre6 enc Try.prog Try.f7 Rows.fnWaitBoundRow.domain false) (Rows.fnWaitBoundSpec.post enc Try.prog Try.f7 false true false false) := by
  refine returnsInHanded_of_change (C := Try.checked) own started (by kernel_rfl) Try.func7
    (ChangeSpec.witness6 (enc := enc) (C := Try.checked) false ⟨#[], #[.slice none 0 0], []⟩ 8 (by kernel_rfl) (by kernel_rfl) (by kernel_rfl) (by kernel_rfl)) ?_
  intro W base args ds gs before hval0 hW hcnd _
  have hval : ∀ (j : Nat) t v, Try.f7.params[j]? = some t → args[j]? = some v → Value.okWide Try.prog W .any base t v := hval0
  have hW' := hW
  obtain ⟨p, q, hA0, hV, rfl, hfz, hnd⟩ := hW
  have hA : DataW.TrodAll enc Try.prog W 0 (fun _ => true) true Try.f7.params.toList args.toList ds p := hA0
  rw [Try.params7] at hA hval
  obtain ⟨v0, vs0, d0, ds0, p0, q0, hargs, rfl, rfl, h0, r0⟩ := trodAll_cons hA
  obtain ⟨rfl, rfl, rfl⟩ := trodAll_nil r0
  obtain rfl : args = #[v0] := by cases args; simp_all
  obtain ⟨rfl, rfl⟩ := trodVars_none hV
  have k0 := h0
  have lt0 : ∀ x ∈ p0, x.block < W.heap.size := by obtain ⟨m, hm⟩ := k0; exact DataW.trod_lt m _ _ _ hm
  obtain ⟨a0, len0, cap0, rfl⟩ := okWide_slice Try.underlying32 (hval 0 32 v0 rfl rfl)
  obtain ⟨w0, hc0⟩ := open_bytes Try.underlying32 Try.underlying5 (by kernel_rfl) h0
  clear hA0 hval0
  refine (walk a0 len0 cap0 W w0 hc0).mono fun e W' ⟨he, bel⟩ => ?_
  subst he
  exact ⟨_, rfl, _, _, _, [], _, [], hW', trodAll_mk1 (shut_bool Try.underlying4 _), (trodAll_cons_mk (Below.trod laidOut (by kernel_rfl) (of_decide_eq_true (by kernel_rfl)) k0 bel lt0) trodAll_mk0), rfl, bel.frame _, fun h => by cases h⟩

theorem over : Rows.fnWaitBoundRow.holds Try.pinned (OpenSpec.ofChange Rows.fnWaitBoundSpec) :=
  OpenClaim.holds_of_wide 7 Try.f7 rfl rfl rfl rfl rfl rfl rfl ⟨rfl, rfl, rfl, rfl, rfl⟩ rfl rfl rfl rfl rfl (by kernel_rfl) Try.func7 (by kernel_rfl)
    (of_decide_eq_true (by kernel_rfl)) (by unfold Func.isWrapper; first | (rw [if_pos (by decide +kernel)]; kernel_rfl) | (rw [if_neg (by decide +kernel)]; exact ⟨rfl, rfl⟩))
    (fun os started H enc _ => lifted os started H enc)

theorem proved : Rows.FnWaitBoundSaid := over
end Go.Proofs.Ytoadkefajobgnaa.FnWaitBound
