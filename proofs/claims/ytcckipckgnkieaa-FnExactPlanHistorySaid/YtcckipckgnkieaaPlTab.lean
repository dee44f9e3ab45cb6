/-
  Generated tables of clearance times.
-/
import Derived.Test.YtcckipckgnkieaaPlDraw2
namespace Go.Proofs.Ytcckipckgnkieaa
open Go.RowKit
set_option linter.unusedVariables false

/-- One element of one row of a slice of slices is written. -/
theorem OwnG.put {α : Type} {f : α → Value} {T1 T0 : TypeId} {w : World} {lo hi : Nat} {C : Option Addr} {c : Nat} {css : List (List α)} (h : OwnG f T1 T0 w lo hi C c css) (hne : T1 ≠ T0) {k : Nat} (hk : k < css.length) :
    ∃ gC oC A c0, C = some ⟨gC, oC, none⟩ ∧ w.cell? ⟨gC, oC + k, none⟩ = some (.slice A css[k].length c0) ∧ lo ≤ gC ∧ gC < hi ∧ ∀ j (hj : j < css[k].length), ∃ g o, A = some ⟨g, o, none⟩ ∧ w.cell? ⟨g, o + j, none⟩ = some (f css[k][j]) ∧ w.frozen? ⟨g, o + j, none⟩ = false ∧ lo ≤ g ∧ g < hi ∧ gC ≠ g ∧ ∀ x, OwnG f T1 T0 (w.setCell ⟨g, o + j, none⟩ (f x)) lo hi C c (css.set k (css[k].set j x)) := by
  obtain ⟨ps, hO, hC, hR⟩ := h
  have hk' : k < ps.length := by rw [hR.1]; exact hk
  obtain ⟨gC, oC, rfl, hc, hf, hl, -⟩ := hO.at hk'
  obtain ⟨A, c0, hps, hrow, hb⟩ := hR.row hk
  have e : ps[k] = (A, css[k].length, c0) := by
    have := List.getElem?_eq_getElem hk'
    rw [hps] at this
    injection this with this
    exact this.symm
  refine ⟨gC, oC, A, c0, rfl, by rw [hc, e]; rfl, hl, hC gC rfl, fun j hj => ?_⟩
  obtain ⟨g, o, rfl, hcj, hfj, hlj, -⟩ := hrow.at hj
  refine ⟨g, o, rfl, hcj, hfj, hlj, hb g rfl, fun e => sepT hrow hO (Ne.symm hne) g rfl (by rw [e]; rfl), fun x => ⟨ps, ?_, hC, ?_, ?_, ?_⟩⟩
  · exact hO.grown (only_set (w := w) (g := g) (k := o + j) (f x)) (sepT hrow hO (Ne.symm hne)).or
  · rw [List.length_set]; exact hR.1
  · intro i p xs hp hx
    rw [List.getElem?_set] at hx
    by_cases ei : k = i
    · subst ei
      rw [if_pos rfl, if_pos hk] at hx
      rw [hps] at hp
      injection hp with hp
      injection hx with hx
      subst hp hx
      exact ⟨by simp, hrow.set hj, fun b hb' => hb b hb'⟩
    · rw [if_neg ei] at hx
      obtain ⟨h1, h2, h3⟩ := hR.2.1 i p xs hp hx
      exact ⟨h1, h2.grown (only_set (w := w) (g := g) (k := o + j) (f x)) (hR.2.2 k i _ p ei hps hp).or, h3⟩
  · exact hR.2.2

theorem cell_grown {w w' : World} {row : Option Nat} {p : Addr} {v : Value} (hg : w.grownBy w' row) (h : w.cell? p = some v) (hne : some p.block ≠ row) : w'.cell? p = some v := by
  have := hg.block p.block (World.block_lt_of_cell? w _ h) hne
  unfold World.cell? at *
  rw [this]; exact h
theorem OwnG.up {α : Type} {f : α → Value} {T1 T0 : TypeId} {w : World} {lo hi hi' : Nat} {C : Option Addr} {c : Nat} {css : List (List α)} (h : OwnG f T1 T0 w lo hi C c css) (hh : hi ≤ hi') : OwnG f T1 T0 w lo hi' C c css := by
  obtain ⟨ps, h1, h2, h3⟩ := h
  exact ⟨ps, h1, fun b hb => Nat.lt_of_lt_of_le (h2 b hb) hh, h3.mono hh⟩
/-- The same behind a call that turns one older block. -/
theorem OwnG.put2 {w : World} {lo hi rb : Nat} {C : Option Addr} {c : Nat} {css : List (List Int)} {T1 T0 : TypeId} (h : OwnG fI T1 T0 w lo hi C c css) (hne : T1 ≠ T0) (hh : hi ≤ w.heap.size) (hrb : rb < lo) {k j : Nat} (hk : k < css.length) (hj : j < (gm css k).length) :
    ∃ gC oC g o c0, C = some ⟨gC, oC, none⟩ ∧ w.cell? ⟨gC, oC + k, none⟩ = some (.slice (some ⟨g, o, none⟩) (gm css k).length c0) ∧ lo ≤ g ∧ ∀ w5, w.grownBy w5 (some rb) →
      w5.cell? ⟨gC, oC + k, none⟩ = some (.slice (some ⟨g, o, none⟩) (gm css k).length c0) ∧ (∃ z, w5.cell? ⟨g, o + j, none⟩ = some z) ∧ w5.frozen? ⟨g, o + j, none⟩ = false ∧ ∀ x, OwnG fI T1 T0 (w5.setCell ⟨g, o + j, none⟩ (.int .i64 x)) lo hi C c (css.set k ((gm css k).set j x)) ∧ (w5.setCell ⟨g, o + j, none⟩ (.int .i64 x)).cell? ⟨gC, oC + k, none⟩ = some (.slice (some ⟨g, o, none⟩) (gm css k).length c0) := by
  obtain ⟨gC, oC, A, c0, rfl, hc, hl, hh2, hp⟩ := h.put hne hk
  obtain ⟨g, o, rfl, hcj, hfj, hlg, hhg, hcg, -⟩ := hp j (by rw [gm_at hk]; exact hj)
  rw [gm_at hk] at hc
  refine ⟨gC, oC, g, o, c0, rfl, hc, hlg, fun w5 hg => ?_⟩
  have hc5 := cell_grown hg hc (fun e => by injection e with e; simp at e; omega)
  have h5 := h.grown hg hh (fun b e => by injection e with e; omega)
  obtain ⟨gC', oC', A', c0', e1, hc', -, -, hp'⟩ := h5.put hne hk
  obtain ⟨rfl, rfl⟩ : gC = gC' ∧ oC = oC' := by simpa using e1
  rw [gm_at hk] at hc'
  rw [hc5] at hc'
  obtain ⟨rfl, -, rfl⟩ : some ⟨g, o, none⟩ = A' ∧ True ∧ c0 = c0' := by simpa using hc'
  obtain ⟨g', o', e2, hcj', hfj', -, -, hcg', hs⟩ := hp' j (by rw [gm_at hk]; exact hj)
  obtain ⟨rfl, rfl⟩ : g = g' ∧ o = o' := by simpa using e2
  refine ⟨hc5, ⟨_, hcj'⟩, hfj', fun x => ⟨by have := hs x; rwa [gm_at hk] at this, ?_⟩⟩
  exact cell_grown (only_set (w := w5) (g := g) (k := o + j) (.int .i64 x)) hc5 (fun e => by injection e with e; exact hcg' e)

def updT (t : List (List Int)) (a b : Nat) (x : Int) : List (List Int) := t.set a ((gm t a).set b x)
theorem updT_length (t : List (List Int)) (a b : Nat) (x : Int) : (updT t a b x).length = t.length := by simp [updT]
theorem gm_updT {t : List (List Int)} {a b : Nat} {x : Int} (ha : a < t.length) (c : Nat) : gm (updT t a b x) c = if c = a then (gm t a).set b x else gm t c := gm_set ha c
theorem tc_updT {t : List (List Int)} {a b : Nat} {x : Int} (ha : a < t.length) (hb : b < (gm t a).length) (c d : Nat) : tc (updT t a b x) c d = if c = a ∧ d = b then x else tc t c d := by
  unfold tc
  rw [gm_updT ha]
  by_cases e : c = a
  · subst e
    rw [if_pos rfl, ga_set hb]
    by_cases e2 : d = b
    · rw [if_pos e2, if_pos ⟨rfl, e2⟩]
    · rw [if_neg e2, if_neg fun h => e2 h.2]
  · rw [if_neg e, if_neg fun h => e h.1]
structure TabN (n : Nat) (t : List (List Int)) : Prop where
  l : t.length = n
  rl : ∀ a, a < n → (gm t a).length = n
  bd : ∀ a b, a < n → b < n → 0 ≤ tc t a b ∧ tc t a b ≤ 5
  sy : ∀ a b, a < n → b < n → (0 < tc t a b ↔ 0 < tc t b a)
  di : ∀ a, a < n → tc t a a = 0
theorem TabN.good {n : Nat} {t : List (List Int)} (h : TabN n t) (h1 : 1 ≤ n) (h8 : n ≤ 8) : GoodC t := by
  obtain ⟨rfl, h2, h3, h4, h5⟩ := h
  exact ⟨h1, h8, h2, h3, h4, h5⟩
theorem updT_rl {n : Nat} {t : List (List Int)} {a b : Nat} {x : Int} (hl : t.length = n) (h : ∀ a, a < n → (gm t a).length = n) (ha : a < n) : ∀ c, c < n → (gm (updT t a b x) c).length = n := by
  intro c hc
  rw [gm_updT (by omega)]
  split
  · rw [List.length_set]; exact h a ha
  · exact h c hc
theorem TabN.upd {n : Nat} {t : List (List Int)} (h : TabN n t) {i k : Nat} {x y : Int} (hi : i < n) (hk : k < i) (hx : 1 ≤ x ∧ x ≤ 5) (hy : 1 ≤ y ∧ y ≤ 5) : TabN n (updT (updT t i k x) k i y) := by
  have hl1 : (updT t i k x).length = n := by rw [updT_length]; exact h.l
  have hrl1 := updT_rl (b := k) (x := x) h.l h.rl hi
  have hv : ∀ a b, tc (updT (updT t i k x) k i y) a b = if a = k ∧ b = i then y else if a = i ∧ b = k then x else tc t a b := fun a b => by
    rw [tc_updT (by omega) (by rw [hrl1 k (by omega)]; omega), tc_updT (by rw [h.l]; omega) (by rw [h.rl i hi]; omega)]
  refine ⟨by rw [updT_length]; exact hl1, updT_rl hl1 hrl1 (by omega), fun a b ha hb => ?_, fun a b ha hb => ?_, fun a ha => ?_⟩
  · rw [hv]
    have := h.bd a b ha hb
    split
    · omega
    · split <;> omega
  · rw [hv, hv]
    have := h.sy a b ha hb
    by_cases e1 : a = k ∧ b = i
    · rw [if_pos e1, if_neg (by omega), if_pos ⟨e1.2, e1.1⟩]; omega
    · rw [if_neg e1]
      by_cases e2 : a = i ∧ b = k
      · rw [if_pos e2, if_pos ⟨e2.2, e2.1⟩]; omega
      · rw [if_neg e2, if_neg (by omega), if_neg (by omega)]
        exact this
  · rw [hv, if_neg (by omega), if_neg (by omega)]
    exact h.di a ha
theorem TabN.zero (n : Nat) : TabN n (List.replicate n (List.replicate n 0)) := by
  have hg : ∀ a, a < n → gm (List.replicate n (List.replicate n (0 : Int))) a = List.replicate n 0 := fun a ha => gm_rep ha
  have hv : ∀ a b, a < n → tc (List.replicate n (List.replicate n 0)) a b = 0 := fun a b ha => by
    unfold tc
    rw [hg a ha]
    by_cases hb : b < n
    · simp [ga, hb]
    · simp [ga, hb]
  exact ⟨by simp, fun a ha => by rw [hg a ha]; simp, fun a b ha hb => by rw [hv a b ha]; omega, fun a b ha hb => by rw [hv a b ha, hv b a hb], fun a ha => hv a a ha⟩
theorem run_make_i (n : Nat) (hn : n ≤ 1000) (w : World) : (Instr.makeSlice 32 (.int .i64 (n : Int)) (.int .i64 (n : Int))).run Try.prog w = .ok (.slice (some ⟨w.heap.size, 0, none⟩) n n) (w.alloc (.cells (List.replicate n (Value.int .i64 0)).toArray 3)) := by
  obtain ⟨i0, hi0, hz0, hz1, hz2⟩ := info_parts info_Int
  exact run_make_n (P := Try.prog) 32 3 i0 (Value.int .i64 0) Try.underlying32 hi0 hz0 hz1 rfl .i64 .i64 n n (Nat.le_refl _) (by omega) (by omega) w

/-- A generated table of clearance times. -/
def DrawT (w : World) (rb N n : Nat) (e : Ending) (w' : World) : Prop :=
  ∃ t C c, e = .returned (.slice C (t : List (List Int)).length c) ∧ t.length ≤ c ∧ OwnG fI 32 3 w' w.heap.size w'.heap.size C c t ∧ TabN n t ∧ Rdr w' rb N ∧ w.grownBy w' (some rb)

set_option maxRecDepth 100000 in
set_option maxHeartbeats 3200000 in
theorem randomClear_any (n rb M : Nat) (w : World) (h1 : 1 ≤ n) (h8 : n ≤ 8) (hd : Rdr w rb M) (hM : M ≤ 700000000) :
    Calls Try.prog 65 #[.pointer (some ⟨rb, 0, none⟩), .int .i64 (n : Int)] w (DrawT w rb (M + 300) n) := by
  obtain ⟨i0, hi0, hz0, hz1, hz2⟩ := info_parts info_S1I
  have hmk := fun W => run_make_i n (by omega) W
  have hrb := hd.lt
  have h0 := (OwnL.of_cap (lo := w.heap.size) fS (Blk.new w 32 #[]) (Nat.le_refl _) rfl (by simp [maxLen])).o
  have hB := (Below.refl w.heap.size w).alloc (Nat.le_refl _) (.cells #[] 32)
  go_enter Try.func65, Try.ntmps65
  go_wp2_with fail
  generalize w.alloc (.cells #[] 32) = w1 at *
  have hR0 := RowsG.nil fI 3 w1 w.heap.size w1.heap.size
  go_loopw [5, 6] (fun v5 vi wr => ∃ k : Nat, k ≤ n ∧ vi = .int .i64 k ∧ (∃ D d2 ps, v5 = .slice D (ps : List (Option Addr × Nat × Nat)).length d2 ∧ OwnO fS wr w.heap.size 32 D d2 ps ∧ RowsG fI 3 wr w.heap.size wr.heap.size ps (List.replicate k (List.replicate n 0))) ∧ Below w.heap.size w wr) (fun _ vi _ => n - (intOf vi).toNat)
  case atStart => exact ⟨0, Nat.zero_le _, rfl, ⟨_, _, [], rfl, h0, hR0⟩, hB⟩
  case round =>
    clear h0 hR0 hB
    obtain ⟨k, hk, rfl, ⟨D, d2, ps, rfl, hO, hR⟩, hB⟩ := hrel
    obtain ⟨wo, hwo⟩ : ∃ wo, wo = wr := ⟨_, rfl⟩
    subst hwo
    have hpl := Lib.hid (show ps.length = k by rw [hR.1, List.length_replicate])
    have hzw := hB.size
    by_cases hlt : k < n
    · have hp8 : ps.length ≤ 1000 := by rw [hpl.out]; omega
      have v5 := (Below.refl wo.heap.size wo).alloc (Nat.le_refl _) (.cells (List.replicate n (Value.int .i64 0)).toArray 3)
      have bR := Blk.new wo 3 (List.replicate n (Value.int .i64 0)).toArray
      have ho5 := (OwnL.of_blk (xs := List.replicate n (0 : Int)) (f := fI) (lo := wo.heap.size) (by simpa using bR) (Nat.le_refl _) (by simp [maxLen]; omega)).o
      rw [List.length_replicate] at ho5
      have hO5 := hO.below v5
      have hB5 := hB.trans (v5.mono hzw)
      have hz5 := hB5.size
      have hOl := hO5.lt
      have hs5 : (wo.alloc (.cells (List.replicate n (Value.int .i64 0)).toArray 3)).heap.size = wo.heap.size + 1 := by simp
      have Hs := Lib.hid (show List.replicate (k + 1) (List.replicate n (0 : Int)) = List.replicate k (List.replicate n 0) ++ [List.replicate n 0] from List.replicate_succ')
      go_wp2_with (at_builtin; go_must (refine wpList_pushO rfl (.tmp 15) (.tmp 18) 23 rfl i0 _ 24 Try.underlying23 hi0 hz0 hz1 hz2 rfl rfl (hO5.alloc (.cells #[.slice (some ⟨wo.heap.size, 0, none⟩) n n] 32)) (wo.heap.size + 1) ((some ⟨wo.heap.size, 0, none⟩ : Option Addr), n, n) rfl (by have := cell_new (wo.alloc (.cells (List.replicate n (Value.int .i64 0)).toArray 3)) (.slice (some ⟨wo.heap.size, 0, none⟩) n n) 32; rwa [hs5] at this) rfl (by omega) (by omega) (by simp; omega) ?_); intro C3 d3 w6 hO6 hg6 hb6)
      have hR6 := rows_push (by decide) hO hR v5 ho5 hzw _ hg6
      rw [List.length_replicate] at hR6
      have hB6 := below_push hz5 hB5 hOl hg6
      go_roundw
      case rel => exact ⟨k + 1, by omega, by go_num, ⟨C3, d3, ps ++ [(some ⟨wo.heap.size, 0, none⟩, n, n)], by simp, hO6, by rw [Hs.out]; exact hR6⟩, hB6⟩
      case measure => simp [intOf]; omega
    · obtain rfl : k = n := by omega
      have hG0 : OwnG fI 32 3 wo w.heap.size wo.heap.size D d2 (List.replicate k (List.replicate k 0)) := ⟨ps, hO, fun b hb => (hO.lt b hb).2, hR⟩
      have ht0 := TabN.zero k
      have hcap : ps.length ≤ d2 := by
        rcases hO with ⟨rfl, h, _⟩ | ⟨_, _, _, _, _, _, h, _⟩
        · have := hpl.out; simp_all
        · exact h
      have hd0 := hd.below hB hrb
      have G0 := only_of_below hB (some rb)
      rw [hpl.out]
      have hkd : k ≤ d2 := by have := hpl.out; omega
      clear hO hR hB hpl hcap hlt hmk
      go_wp2_with fail
      obtain ⟨hi, hhi⟩ : ∃ hi, hi = wo.heap.size := ⟨_, rfl⟩
      rw [← hhi] at hG0
      go_loopw [7] (fun vi wr => ∃ i : Nat, i ≤ k ∧ vi = .int .i64 i ∧ (∃ t, OwnG fI 32 3 wr w.heap.size hi D d2 t ∧ TabN k t) ∧ Rdr wr rb (M + 30 * i) ∧ w.grownBy wr (some rb) ∧ hi ≤ wr.heap.size) (fun vi _ => k - (intOf vi).toNat)
      case atStart => exact ⟨0, Nat.zero_le _, rfl, ⟨_, hG0, ht0⟩, hd0.mono (by omega), G0, by omega⟩
      case round =>
        clear hG0 ht0 hd0 G0
        obtain ⟨i, hi1, rfl, ⟨t0, hG, ht⟩, hd, G, hhiw⟩ := hrel
        obtain ⟨n, hn⟩ : ∃ n, n = k := ⟨_, rfl⟩
        subst hn
        by_cases hlti : i < n
        · go_wp2_with fail
          go_loopw [8] (fun vi wr => ∃ j : Nat, j ≤ i ∧ vi = .int .i64 j ∧ (∃ t, OwnG fI 32 3 wr w.heap.size hi D d2 t ∧ TabN n t) ∧ Rdr wr rb (M + 30 * i + 3 * j) ∧ w.grownBy wr (some rb) ∧ hi ≤ wr.heap.size) (fun vi _ => i - (intOf vi).toNat)
          case atStart => exact ⟨0, Nat.zero_le _, rfl, ⟨t0, hG, ht⟩, hd.mono (by omega), G, hhiw⟩
          case round =>
            clear hG ht hd G hhiw
            obtain ⟨j, hj, rfl, ⟨t, hG, ht⟩, hd, G, hhiw⟩ := hrel
            by_cases hltj : j < i
            case neg =>
              obtain rfl : j = i := by omega
              go_wp2_with fail
              go_roundw
              case rel => exact ⟨j + 1, by omega, by go_num, ⟨t, hG, ht⟩, hd.mono (by omega), G, hhiw⟩
              case measure => simp [intOf]; omega
            go_wp2_with fail
            refine (pick_any _ rb _ _ hd (by omega)).mono ?_
            rintro e w3 ⟨u, rfl, -, -, hd3, hg3⟩
            have hG3 := hG.grown hg3 hhiw (fun b e => by injection e with e; omega)
            have G3 := only_trans G hg3
            have hs3 := hg3.size
            clear hG hd G hg3
            cases hu : (u == 0) with
            | false =>
              go_wp2_with fail
              go_roundw
              case rel => exact ⟨j + 1, by omega, by go_num, ⟨t, hG3, ht⟩, hd3.mono (by omega), G3, by omega⟩
              case measure => simp [intOf]; omega
            | true =>
            replace hhiw : hi ≤ w3.heap.size := by omega
            have hrl := ht.rl
            have htl := ht.l
            obtain ⟨gC, oC, g, o, c0, rfl, hcC, hlg, hput⟩ := hG3.put2 (by decide) hhiw hrb (k := i) (j := j) (by omega) (by rw [hrl i (by omega)]; omega)
            rw [hrl i (by omega)] at hcC hput
            have hin : (i : Int) < (n : Int) := by omega
            have hjn : (j : Int) < (n : Int) := by omega
            have htup : ∀ x y, 1 ≤ x ∧ x ≤ 5 → 1 ≤ y ∧ y ≤ 5 → TabN n (updT (updT t i j x) j i y) := fun x y hx hy => ht.upd hlti hltj hx hy
            have Htup := Lib.hid htup
            obtain ⟨hd, hdd⟩ : ∃ h : Rdr w3 rb (M + 30 * i + 3 * j + 1), True := ⟨hd3, trivial⟩
            obtain ⟨G, -⟩ : ∃ h : w.grownBy w3 (some rb), True := ⟨G3, trivial⟩
            have Hrl := Lib.hid (fun x => updT_rl (b := j) (x := x) htl hrl hlti)
            have Htl := Lib.hid (fun x => (updT_length t i j x).trans htl)
            clear hd3 G3 hG3 hdd ht htup hrl htl
            go_wp2_with fail
            obtain ⟨S0, hS⟩ : ∃ S0 : World → Prop, S0 = fun y => y.cell? ⟨gC, oC + i, none⟩ = some (.slice (some ⟨g, o, none⟩) n c0) := ⟨_, rfl⟩
            have hS1 : ∀ y, S0 y → y.cell? ⟨gC, oC + i, none⟩ = some (.slice (some ⟨g, o, none⟩) n c0) := fun y h => by rw [hS] at h; exact h
            have k0 : ∀ y : Held S0, y.x.cell? ⟨gC, oC + i, none⟩ = some (.slice (some ⟨g, o, none⟩) n c0) := fun y => hS1 y.x y.h
            have hS3 : ∀ y : World, y.cell? ⟨gC, oC + i, none⟩ = some (.slice (some ⟨g, o, none⟩) n c0) → S0 y := fun y h => by rw [hS]; exact h
            have HS3 := Lib.hid hS3
            clear hS hS1 hS3
            refine wp_region_mix S0 [(0, 0), (0, 1), (0, 2), (0, 3), (0, 4), (0, 5), (1, 6), (0, 7), (0, 8), (1, 9)] [] (by kernel_rfl) (by kernel_rfl) (HS3.out _ hcC) ?_
            intro hne1
            simp only [mixOps, List.filterMap_cons, List.filterMap_nil, List.getElem?_toArray, List.getElem?_cons_zero, List.getElem?_cons_succ, Option.map_some]
            replace hd := hd.drew
            replace G := only_drew G
            have hput := fun w5 (hg : w3.drew.grownBy w5 (some rb)) => hput w5 ⟨hg.os, hg.tape, hg.output, hg.size, hg.block⟩
            have hhiw : hi ≤ w3.drew.heap.size := hhiw
            generalize w3.drew = wd at *
            repeat (refine mix_early (fun K hK => ?_); go_simp; refine hK _ ?_; clear hK K)
            refine mix_late rfl (fun K hK => ?_)
            go_wp2_with fail
            refine (pick_any _ rb _ _ hd (by omega)).mono ?_
            rintro e w5 ⟨x, rfl, hx0, hx1, hd5, hg5⟩
            have hx1 := hx1 (by omega)
            obtain ⟨hc5, ⟨z5, hz5⟩, hf5, hset⟩ := hput _ hg5
            obtain ⟨hG6, hc6⟩ := hset (1 + x)
            have G5 := only_trans G hg5
            have hs5 := hg5.size
            have hd6 := hd5.setCell (p := ⟨g, o + j, none⟩) (by simp; omega) (.int .i64 (1 + x))
            have G6 := only_setCell G5 (p := ⟨g, o + j, none⟩) (.inr hlg) (.int .i64 (1 + x))
            have hw5 : IntKind.i64.wrap (1 + x) = 1 + x := by simp [IntKind.wrap, IntKind.bits, IntKind.signed]; omega
            have hs6 : (w5.setCell ⟨g, o + j, none⟩ (.int .i64 (1 + x))).heap.size = w5.heap.size := by simp
            clear hput hset hd hg5 G hcC
            go_wp2_with fail
            refine ⟨HS3.out _ hc5, ?_⟩
            repeat (refine mix_early (fun K hK => ?_); go_simp; refine hK _ ?_; clear hK K)
            refine mix_late rfl (fun K hK => ?_)
            go_wp2_with fail
            refine ⟨HS3.out _ hc6, ?_⟩
            refine mix_nil ?_
            simp only [tailT, List.filterMap_nil]
            refine wpLateC_nil (NoPanic.normal ?_)
            clear k0 hne1 hc5 hz5 hf5 hc6 HS3 hd5 G5
            obtain ⟨w6, hw6⟩ : ∃ w6, w6 = w5.setCell ⟨g, o + j, none⟩ (.int .i64 (1 + x)) := ⟨_, rfl⟩
            rw [← hw6] at hG6 hd6 G6 hs6
            go_wp2_with fail
            rw [← hw6]
            clear hw6
            replace hhiw : hi ≤ w6.heap.size := by omega
            obtain ⟨gC', oC', g, o, c0, eC, hcC, hlg, hput⟩ := hG6.put2 (by decide) hhiw hrb (k := j) (j := i) (by rw [List.length_set]; have := Htl.out 0; rw [updT_length] at this; omega) (by have := Hrl.out (1 + x) j (by omega); unfold updT at this; rw [this]; omega)
            obtain ⟨rfl, rfl⟩ : gC = gC' ∧ oC = oC' := by simpa using eC
            have hrl6 := Hrl.out (1 + x) j (by omega)
            unfold updT at hrl6
            rw [hrl6] at hcC hput
            obtain ⟨x1, hxx⟩ : ∃ x1, x1 = 1 + x := ⟨_, rfl⟩
            rw [← hxx] at hput
            have hxb : 1 ≤ x1 ∧ x1 ≤ 5 := by omega
            have hd := hd6
            have G := G6
            clear hd6 G6 hG6 hxx hx0 hx1 hw5 hs6 eC hrl6 hs5
            obtain ⟨S0, hS⟩ : ∃ S0 : World → Prop, S0 = fun y => y.cell? ⟨gC, oC + j, none⟩ = some (.slice (some ⟨g, o, none⟩) n c0) := ⟨_, rfl⟩
            have hS1 : ∀ y, S0 y → y.cell? ⟨gC, oC + j, none⟩ = some (.slice (some ⟨g, o, none⟩) n c0) := fun y h => by rw [hS] at h; exact h
            have k0 : ∀ y : Held S0, y.x.cell? ⟨gC, oC + j, none⟩ = some (.slice (some ⟨g, o, none⟩) n c0) := fun y => hS1 y.x y.h
            have hS3 : ∀ y : World, y.cell? ⟨gC, oC + j, none⟩ = some (.slice (some ⟨g, o, none⟩) n c0) → S0 y := fun y h => by rw [hS]; exact h
            have HS3 := Lib.hid hS3
            clear hS hS1 hS3
            refine wp_region_mix S0 [(0, 0), (0, 1), (0, 2), (0, 3), (0, 4), (0, 5), (1, 6), (0, 7), (0, 8), (1, 9)] [] (by kernel_rfl) (by kernel_rfl) (HS3.out _ hcC) ?_
            intro hne1
            simp only [mixOps, List.filterMap_cons, List.filterMap_nil, List.getElem?_toArray, List.getElem?_cons_zero, List.getElem?_cons_succ, Option.map_some]
            replace hd := hd.drew
            replace G := only_drew G
            have hput := fun w5 (hg : w6.drew.grownBy w5 (some rb)) => hput w5 ⟨hg.os, hg.tape, hg.output, hg.size, hg.block⟩
            have hhiw : hi ≤ w6.drew.heap.size := hhiw
            generalize w6.drew = wd at *
            repeat (refine mix_early (fun K hK => ?_); go_simp; refine hK _ ?_; clear hK K)
            refine mix_late rfl (fun K hK => ?_)
            go_wp2_with fail
            refine (pick_any _ rb _ _ hd (by omega)).mono ?_
            rintro e w7 ⟨x, rfl, hx0, hx1, hd5, hg5⟩
            have hx1 := hx1 (by omega)
            obtain ⟨hc5, ⟨z5, hz5⟩, hf5, hset⟩ := hput _ hg5
            obtain ⟨hG6, hc6⟩ := hset (1 + x)
            have G5 := only_trans G hg5
            have hs5 := hg5.size
            have hd6 := hd5.setCell (p := ⟨g, o + i, none⟩) (by simp; omega) (.int .i64 (1 + x))
            have G6 := only_setCell G5 (p := ⟨g, o + i, none⟩) (.inr hlg) (.int .i64 (1 + x))
            have hw5 : IntKind.i64.wrap (1 + x) = 1 + x := by simp [IntKind.wrap, IntKind.bits, IntKind.signed]; omega
            have hs6 : (w7.setCell ⟨g, o + i, none⟩ (.int .i64 (1 + x))).heap.size = w7.heap.size := by simp
            clear hput hset hd hg5 G hcC
            go_wp2_with fail
            refine ⟨HS3.out _ hc5, ?_⟩
            repeat (refine mix_early (fun K hK => ?_); go_simp; refine hK _ ?_; clear hK K)
            refine mix_late rfl (fun K hK => ?_)
            go_wp2_with fail
            refine ⟨HS3.out _ hc6, ?_⟩
            refine mix_nil ?_
            simp only [tailT, List.filterMap_nil]
            refine wpLateC_nil (NoPanic.normal ?_)
            clear k0 hne1 hc5 hz5 hf5 hc6 HS3 hd5 G5
            have htf := Htup.out x1 (1 + x) hxb (by omega)
            unfold updT at htf
            have Hf := Lib.hid htf
            clear htf
            go_wp2_with fail
            go_roundw
            case rel => exact ⟨j + 1, by omega, by go_num, ⟨_, hG6, Hf.out⟩, hd6.mono (by omega), G6, by omega⟩
            case measure => simp [intOf]; omega
        · obtain rfl : i = n := by omega
          have Hl := Lib.hid ht.l
          go_wp2_with fail
          go_ret
          exact ⟨t0, D, d2, by rw [Hl.out]; rfl, by rw [Hl.out]; exact hkd, hG.up hhiw, ht, hd.mono (by omega), G⟩
end Go.Proofs.Ytcckipckgnkieaa
