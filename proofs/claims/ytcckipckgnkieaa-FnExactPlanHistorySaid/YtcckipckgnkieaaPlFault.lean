/-
  The first fault, as the program finds it.
-/
import Derived.Test.YtcckipckgnkieaaPlConf
namespace Go.Proofs.Ytcckipckgnkieaa
open Go.RowKit
set_option linter.unusedVariables false

def laL (h : List (List Int)) (n k : Nat) : List Int := mapN n fun a => laW h a k
theorem laL_length (h : List (List Int)) (n k : Nat) : (laL h n k).length = n := mapN_length _ _
theorem ga_mapN {n : Nat} {f : Nat → Int} {i : Nat} (h : i < n) : ga (mapN n f) i = f i := by
  rw [← ga_at (by rwa [mapN_length]), mapN_get]
theorem laL_zero (h : List (List Int)) (n : Nat) : laL h n 0 = List.replicate n (-1) := by
  apply List.ext_getElem
  · rw [laL_length, List.length_replicate]
  · intro i h1 h2
    simp only [laL]
    rw [mapN_get, List.getElem_replicate]
    rfl
theorem ga_laL {h : List (List Int)} {n k a : Nat} (ha : a < n) : ga (laL h n k) a = laW h a k := ga_mapN ha
theorem ga_set {l : List Int} {k : Nat} {v : Int} (hk : k < l.length) (i : Nat) : ga (l.set k v) i = if i = k then v else ga l i := by
  by_cases e : i = k
  · subst e; simp [ga, hk]
  · simp [ga, e, Ne.symm e]
/-- The last seconds when the first j movements have been noted. -/
def noteL (m : List Int) (v : Int) (ls : List Int) : Nat → List Int
  | 0 => ls
  | j + 1 => (noteL m v ls j).set (ga m j).toNat v
theorem noteL_length (m : List Int) (v : Int) (ls : List Int) (j : Nat) : (noteL m v ls j).length = ls.length := by
  induction j with
  | zero => rfl
  | succ j ih => rw [noteL, List.length_set, ih]
theorem noteL_end {t h : List (List Int)} {k : Nat} (hm : GoodM t.length (gm h k)) : noteL (gm h k) (k : Int) (laL h t.length k) (gm h k).length = laL h t.length (k + 1) := by
  have key : ∀ j, j ≤ (gm h k).length → ∀ a : Nat, a < t.length → ga (noteL (gm h k) (k : Int) (laL h t.length k) j) a = if ∃ i, i < j ∧ ga (gm h k) i = (a : Int) then (k : Int) else laW h a k := by
    intro j
    induction j with
    | zero => intro _ a ha; rw [noteL, ga_laL ha, if_neg (by rintro ⟨i, hi, _⟩; omega)]
    | succ j ih =>
      intro hj a ha
      have hb := hm.get (i := j) (by omega)
      rw [noteL, ga_set (by rw [noteL_length, laL_length]; omega), ih (by omega) a ha]
      by_cases e : a = (ga (gm h k) j).toNat
      · rw [if_pos e, if_pos ⟨j, by omega, by omega⟩]
      · rw [if_neg e]
        by_cases hx : ∃ i, i < j ∧ ga (gm h k) i = (a : Int)
        · obtain ⟨i, hi, he⟩ := hx
          rw [if_pos ⟨i, hi, he⟩, if_pos ⟨i, by omega, he⟩]
        · rw [if_neg hx, if_neg]
          rintro ⟨i, hi, he⟩
          by_cases ei : i = j
          · subst ei; omega
          · exact hx ⟨i, by omega, he⟩
  apply List.ext_getElem
  · rw [noteL_length, laL_length, laL_length]
  · intro a h1 h2
    rw [ga_at h1, ga_at h2]
    rw [laL_length] at h2
    rw [key _ (Nat.le_refl _) a h2, ga_laL h2, laW]
    by_cases hx : (a : Int) ∈ gm h k
    · obtain ⟨i, hi, he⟩ := mem_ga hx
      rw [if_pos ⟨i, hi, he⟩, if_pos hx]
    · rw [if_neg hx, if_neg]
      rintro ⟨i, hi, he⟩
      exact hx (by rw [← he]; exact ga_mem hi)

/-- A watch in block gw, its last seconds in block gl. -/
structure Wat (w : World) (lo gw gl : Nat) (T : Option Addr) (c : Nat) (t : List (List Int)) (ls : List Int) : Prop where
  b : Blk w gw 92 #[.slice T t.length c, .slice (some ⟨gl, 0, none⟩) t.length t.length]
  o : OwnO fI w lo 3 (some ⟨gl, 0, none⟩) t.length ls
  l : ls.length = t.length
theorem Wat.ne {w : World} {lo gw gl : Nat} {T : Option Addr} {c : Nat} {t : List (List Int)} {ls : List Int} (h : Wat w lo gw gl T c t ls) : gl ≠ gw := neT h.o h.b (by decide) gl rfl
theorem Wat.below {w w' : World} {lo gw gl : Nat} {T : Option Addr} {c : Nat} {t : List (List Int)} {ls : List Int} (h : Wat w lo gw gl T c t ls) (hb : Below w.heap.size w w') : Wat w' lo gw gl T c t ls := ⟨h.b.below hb h.b.lt, h.o.below hb, h.l⟩

set_option maxHeartbeats 800000 in
theorem newWatch_any (t : List (List Int)) (T : Option Addr) (c : Nat) (w : World) (hn : t.length ≤ 8) :
    Calls Try.prog 55 #[.slice T t.length c] w fun e w' => ∃ gw gl, e = .returned (.pointer (some ⟨gw, 0, none⟩)) ∧ Wat w' w.heap.size gw gl T c t (List.replicate t.length (-1)) ∧ Below w.heap.size w w' := by
  obtain ⟨i0, hi0, hz0, hz1, hz2⟩ := info_parts info_Int
  have hmk := fun W => run_make_n (P := Try.prog) 32 3 i0 (Value.int .i64 (0)) Try.underlying32 hi0 hz0 hz1 rfl .i64 .i64 t.length t.length (Nat.le_refl _) (by omega) (by omega) W
  have bA := Blk.new w 3 (Array.replicate t.length (Value.int .i64 0))
  have hA := ((OwnL.of_blk (xs := List.replicate t.length (0 : Int)) (f := fI) (lo := w.heap.size) (by simpa using bA) (Nat.le_refl _) (by simp [maxLen]; omega)).o).alloc (.cells #[.slice T t.length c, .slice (some ⟨w.heap.size, 0, none⟩) t.length t.length] 92)
  rw [List.length_replicate] at hA
  have hW := Blk.new (w.alloc (.cells (Array.replicate t.length (Value.int .i64 0)) 3)) 92 #[.slice T t.length c, .slice (some ⟨w.heap.size, 0, none⟩) t.length t.length]
  have hB := ((Below.refl w.heap.size w).alloc (Nat.le_refl _) (.cells (Array.replicate t.length (Value.int .i64 0)) 3)).alloc (by simp) (.cells #[.slice T t.length c, .slice (some ⟨w.heap.size, 0, none⟩) t.length t.length] 92)
  have hk0 := hW.cell 1
  simp at hk0
  clear bA
  go_enter Try.func55, Try.ntmps55
  go_wp2_with fail
  clear hmk hk0
  have hss : (w.alloc (.cells (Array.replicate t.length (Value.int .i64 0)) 3)).heap.size = w.heap.size + 1 := by simp
  rw [hss] at hW
  generalize (w.alloc (.cells (Array.replicate t.length (Value.int .i64 0)) 3)).alloc (.cells #[.slice T t.length c, .slice (some ⟨w.heap.size, 0, none⟩) t.length t.length] 92) = w1 at *
  go_loopw [16] (fun vi wr => ∃ k : Nat, k ≤ t.length ∧ vi = .int .i64 k ∧ OwnO fI wr w.heap.size 3 (some ⟨w.heap.size, 0, none⟩) t.length (mapN t.length fun i => if i < k then -1 else 0) ∧ Blk wr (w.heap.size + 1) 92 #[.slice T t.length c, .slice (some ⟨w.heap.size, 0, none⟩) t.length t.length] ∧ Below w.heap.size w wr) (fun vi _ => t.length - (intOf vi).toNat)
  case atStart =>
    refine ⟨0, Nat.zero_le _, rfl, ?_, hW, hB⟩
    have : (mapN t.length fun i => if i < 0 then (-1 : Int) else 0) = List.replicate t.length 0 := by
      apply List.ext_getElem
      · rw [mapN_length, List.length_replicate]
      · intro i h1 h2
        rw [mapN_get, if_neg (by omega), List.getElem_replicate]
    rw [this]
    exact hA
  case round =>
    clear hA hW hB
    obtain ⟨k, hk, rfl, hO, hW, hB⟩ := hrel
    have k1 := hW.cell 1
    simp at k1
    by_cases hlt : k < t.length
    · obtain ⟨g', o', e', hca, hfa, -⟩ := hO.at (k := k) (by rw [mapN_length]; exact hlt)
      obtain ⟨rfl, rfl⟩ : w.heap.size = g' ∧ 0 = o' := by simpa using e'
      rw [Nat.zero_add] at hca hfa
      have hs := hO.set (k := k) (x := (-1 : Int)) (by rw [mapN_length]; exact hlt)
      have hst : (mapN t.length fun i => if i < k then (-1 : Int) else 0).set k (-1) = mapN t.length fun i => if i < k + 1 then -1 else 0 := by
        rw [mapN_set]
        refine mapN_congr fun i hi => ?_
        by_cases e : i = k
        · subst e; simp
        · rw [if_neg e]
          by_cases h : i < k
          · rw [if_pos h, if_pos (by omega)]
          · rw [if_neg h, if_neg (by omega)]
      rw [hst, Nat.zero_add] at hs
      have hW2 := hW.far (p := ⟨w.heap.size, k, none⟩) (by simp) (.int .i64 (-1))
      have hB2 := hB.setCell (p := ⟨w.heap.size, k, none⟩) (Nat.le_refl _) (.int .i64 (-1))
      have HS := Lib.hid hs
      generalize fI _ = z at hca
      clear hs hst hO e'
      go_wp2_with fail
      go_roundw
      case rel => exact ⟨k + 1, by omega, by go_num, HS.out, hW2, hB2⟩
      case measure => simp [intOf]; omega
    · obtain rfl : k = t.length := by omega
      have hE : (mapN t.length fun i => if i < t.length then (-1 : Int) else 0) = List.replicate t.length (-1) := by
        apply List.ext_getElem
        · rw [mapN_length, List.length_replicate]
        · intro i h1 h2
          rw [mapN_length] at h1
          rw [mapN_get, if_pos h1, List.getElem_replicate]
      rw [hE] at hO
      go_wp2_with fail
      go_ret
      exact ⟨w.heap.size + 1, w.heap.size, rfl, ⟨hW, hO, by simp⟩, hB⟩

set_option maxHeartbeats 800000 in
theorem note_any (t : List (List Int)) (m ls : List Int) (v : Int) (T A : Option Addr) (c d lo gw gl : Nat) (w : World) (hW : Wat w lo gw gl T c t ls) (hr : RdL fI w A m) (hn : t.length ≤ 8) (hm : GoodM t.length m) (hA : ∀ b, blk A = some b → m.length ≠ 0 → b ≠ gl) :
    Calls Try.prog 57 #[.pointer (some ⟨gw, 0, none⟩), .slice A m.length d, .int .i64 v] w fun e w' => e = .returned (.tuple #[]) ∧ Wat w' lo gw gl T c t (noteL m v ls m.length) ∧ w.grownBy w' (some gl) := by
  have hml := hm.len
  go_enter Try.func57, Try.ntmps57
  go_wp2_with fail
  go_loopw [10] (fun vi wr => ∃ k : Nat, k ≤ m.length ∧ vi = .int .i64 k ∧ Wat wr lo gw gl T c t (noteL m v ls k) ∧ w.grownBy wr (some gl)) (fun vi _ => m.length - (intOf vi).toNat)
  case atStart => exact ⟨0, Nat.zero_le _, rfl, hW, only_refl _ _⟩
  case round =>
    clear hW
    obtain ⟨k, hk, rfl, hW, hG⟩ := hrel
    have k1 := hW.b.cell 1
    simp at k1
    by_cases hlt : k < m.length
    · have hrd := hr.grown hG (fun b o e h => hA b (by rw [e]; rfl) (by omega) (by injection h))
      obtain ⟨b, o, rfl, hel⟩ := elemAt hrd hlt
      have hb := hm.get hlt
      obtain ⟨x, hx⟩ : ∃ x : Nat, ga m k = (x : Int) := ⟨_, (Int.toNat_of_nonneg hb.1).symm⟩
      have Hst := Lib.hid (show noteL m v ls (k + 1) = (noteL m v ls k).set x v by rw [noteL, hx, Int.toNat_natCast])
      rw [hx] at hel hb
      have hxl : x < t.length := by omega
      have hne := hW.ne
      obtain ⟨g', o', e', hca, hfa, -⟩ := hW.o.at (k := x) (by rw [hW.l]; exact hxl)
      obtain ⟨rfl, rfl⟩ : gl = g' ∧ 0 = o' := by simpa using e'
      rw [Nat.zero_add] at hca hfa
      have hs := hW.o.set (k := x) (x := v) (by rw [hW.l]; exact hxl)
      rw [Nat.zero_add] at hs
      have hb2 := hW.b.far (p := ⟨gl, x, none⟩) (fun e => hne e.symm) (fI v)
      have hG2 := only_setCell hG (p := ⟨gl, x, none⟩) (.inl rfl) (fI v)
      have hW2 : Hid (Wat (wr.setCell ⟨gl, x, none⟩ (fI v)) lo gw gl T c t ((noteL m v ls k).set x v)) := Lib.hid ⟨hb2, hs, by rw [List.length_set]; exact hW.l⟩
      generalize fI _ = z at hca
      have HG := Lib.hid hG2
      clear hs hb2 hG2 e' hx hrd hW hG
      go_wp2_with fail
      go_roundw
      case rel => exact ⟨k + 1, by omega, by go_num, by rw [Hst.out]; exact hW2.out, HG.out⟩
      case measure => simp [intOf]; omega
    · obtain rfl : k = m.length := by omega
      go_wp2_with fail
      go_end0
      exact ⟨rfl, hW, hG⟩

theorem tz_nat (t : List (List Int)) (a b : Nat) : tz t (a : Int) (b : Int) = tc t a b := by simp [tz]
theorem badB_yes {t h : List (List Int)} {k : Nat} (hg : GoodW t h) (hk : k < h.length) {b : Int} (hb : b ∈ gm h k) (ho : (∃ a ∈ gm h k, 0 < tz t a b) ∨ Early t h k b) : badB t h k = true :=
  dec_iff.mpr ((bad_iff hg hk).mpr ⟨b, hb, ho⟩)
theorem badB_no {t h : List (List Int)} {k : Nat} (hg : GoodW t h) (hk : k < h.length) (hn : ∀ i, i < (gm h k).length → ¬ ((∃ a ∈ gm h k, 0 < tz t a (ga (gm h k) i)) ∨ Early t h k (ga (gm h k) i))) : badB t h k = false :=
  dec_not.mpr fun hb => by
    obtain ⟨b, hb1, hb2⟩ := (bad_iff hg hk).mp hb
    obtain ⟨i, hi, rfl⟩ := mem_ga hb1
    exact hn i hi hb2
set_option maxHeartbeats 1600000 in
theorem isFault_any (t h : List (List Int)) (k : Nat) (T A : Option Addr) (c d lo gw gl : Nat) (w : World) (hW : Wat w lo gw gl T c t (laL h t.length k)) (hr : RdSS fI w T t) (hm0 : RdL fI w A (gm h k)) (hg : GoodW t h) (hk : k < h.length) :
    Calls Try.prog 56 #[.pointer (some ⟨gw, 0, none⟩), .slice A (gm h k).length d, .int .i64 (k : Int)] w fun e w' => e = .returned (.bool (badB t h k)) ∧ Below w.heap.size w w' := by
  have hm := hg.m k hk
  have hml := hm.len
  have hn8 := hg.c.n2
  have hk150 := hg.l
  have Hg := Lib.hid hg
  have Hyes := Lib.hid (fun b hb ho => badB_yes hg hk (b := b) hb ho)
  have Hno := Lib.hid (badB_no hg hk)
  have k0 := hW.b.cell 0
  have k1 := hW.b.cell 1
  simp at k0 k1
  have hls := hW.o.rd
  obtain ⟨m, hmm⟩ : ∃ m, m = gm h k := ⟨_, rfl⟩
  rw [← hmm] at hm hml hm0 Hyes Hno
  rw [← hmm]
  clear hg hmm hW
  go_enter Try.func56, Try.ntmps56
  go_wp2_with fail
  go_loopw [15] (fun vi wr => ∃ i : Nat, i ≤ m.length ∧ vi = .int .i64 i ∧ (∀ i', i' < i → ¬ ((∃ a ∈ m, 0 < tz t a (ga m i')) ∨ Early t h k (ga m i'))) ∧ ∃ q, wr = w.drewN q) (fun vi _ => m.length - (intOf vi).toNat)
  case atStart => exact ⟨0, Nat.zero_le _, rfl, fun i' h => by omega, 0, rfl⟩
  case round =>
    obtain ⟨i, hi, rfl, hp, q, rfl⟩ := hrel
    have Hp := Lib.hid hp
    clear hp
    by_cases hlt : i < m.length
    · obtain ⟨b, o, rfl, hel⟩ := elemAt hm0 hlt
      have hb := hm.get hlt
      have Hb := Lib.hid (ga_mem hlt)
      obtain ⟨x, hx⟩ : ∃ x : Nat, ga m i = (x : Int) := ⟨_, (Int.toNat_of_nonneg hb.1).symm⟩
      have Hx := Lib.hid hx
      rw [hx] at hel hb
      have hxl : x < t.length := by omega
      clear hx
      go_wp2_with fail
      go_loopw [21] (fun vi wr => ∃ j : Nat, j ≤ m.length ∧ vi = .int .i64 j ∧ (∀ j', j' < j → ¬ 0 < tz t (ga m j') (x : Int)) ∧ ∃ q, wr = w.drewN q) (fun vi _ => m.length - (intOf vi).toNat)
      case atStart => exact ⟨0, Nat.zero_le _, rfl, fun j' h => by omega, _, rfl⟩
      case round =>
        obtain ⟨j, hj, rfl, hq, q2, rfl⟩ := hrel
        have Hq := Lib.hid hq
        clear hq
        by_cases hlt2 : j < m.length
        · obtain ⟨b2, o2, e2, hel2⟩ := elemAt hm0 hlt2
          obtain ⟨rfl, rfl⟩ : b = b2 ∧ o = o2 := by simpa using e2
          have hb2 := hm.get hlt2
          have Hb2 := Lib.hid (ga_mem hlt2)
          obtain ⟨y, hy⟩ : ∃ y : Nat, ga m j = (y : Int) := ⟨_, (Int.toNat_of_nonneg hb2.1).symm⟩
          have Hy := Lib.hid hy
          rw [hy] at hel2 hb2
          have hyl : y < t.length := by omega
          obtain ⟨b3, o3, A3, c3, rfl, hc3, hr3⟩ := rowAt hr hyl
          rw [Hg.out.c.rl y hyl] at hc3
          obtain ⟨b4, o4, rfl, hel4⟩ := elemAt hr3 (k := x) (by rw [Hg.out.c.rl y hyl]; exact hxl)
          rw [show ga (gm t y) x = tc t y x from rfl] at hel4
          have Htz := Lib.hid (tz_nat t y x)
          clear e2 hr3 hy
          by_cases hz : 0 < tc t y x
          · have H := Lib.hid (show true = badB t h k from (Hyes.out _ Hb.out (.inl ⟨_, Hb2.out, by rw [Hx.out, Hy.out, Htz.out]; exact hz⟩)).symm)
            generalize tc t y x = z at *
            go_wp2_with fail
            go_ret
            exact ⟨ret_bool H.out, below_drewN (Below.refl _ _) _⟩
          · have H := Lib.hid (show ∀ j', j' < j + 1 → ¬ 0 < tz t (ga m j') (x : Int) from fun j' hj' => by
              by_cases e : j' = j
              · subst e; rw [Hy.out, Htz.out]; exact hz
              · exact Hq.out j' (by omega))
            generalize tc t y x = z at *
            clear Hq
            go_wp2_with fail
            go_roundw
            case rel => exact ⟨j + 1, by omega, by go_num, H.out, _, rfl⟩
            case measure => simp [intOf]; omega
        · obtain rfl : j = m.length := by omega
          clear hlt2
          go_wp2_with fail
          go_loopw [42] (fun vi wr => ∃ a : Nat, a ≤ t.length ∧ vi = .int .i64 a ∧ (∀ a', a' < a → ¬ (0 ≤ laW h a' k ∧ (k : Int) - laW h a' k - 1 < tc t a' x)) ∧ ∃ q, wr = w.drewN q) (fun vi _ => t.length - (intOf vi).toNat)
          case atStart => exact ⟨0, Nat.zero_le _, rfl, fun a' h => by omega, _, rfl⟩
          case round =>
            obtain ⟨a, ha, rfl, hs, q3, rfl⟩ := hrel
            have Hs := Lib.hid hs
            clear hs
            by_cases hlt3 : a < t.length
            · obtain ⟨b5, o5, e5, hel5⟩ := elemAt hls (k := a) (by rw [laL_length]; exact hlt3)
              obtain ⟨rfl, rfl⟩ : gl = b5 ∧ 0 = o5 := by simpa using e5
              rw [ga_laL hlt3, Nat.zero_add] at hel5
              obtain ⟨b3, o3, A3, c3, rfl, hc3, hr3⟩ := rowAt hr hlt3
              rw [Hg.out.c.rl a hlt3] at hc3
              obtain ⟨b4, o4, rfl, hel4⟩ := elemAt hr3 (k := x) (by rw [Hg.out.c.rl a hlt3]; exact hxl)
              rw [show ga (gm t a) x = tc t a x from rfl] at hel4
              have hlb := laW_bd h a k
              have Hbad := Lib.hid (fun hh : 0 ≤ laW h a k ∧ (k : Int) - laW h a k - 1 < tc t a x => show true = badB t h k from (Hyes.out _ Hb.out (.inr ⟨a, hlt3, hh.1, by rw [Hx.out, tz_nat]; exact hh.2⟩)).symm)
              have Hnxt := Lib.hid (fun hh : ¬ (0 ≤ laW h a k ∧ (k : Int) - laW h a k - 1 < tc t a x) => show ∀ a', a' < a + 1 → ¬ (0 ≤ laW h a' k ∧ (k : Int) - laW h a' k - 1 < tc t a' x) from fun a' ha' => by
                by_cases e : a' = a
                · subst e; exact hh
                · exact Hs.out a' (by omega))
              clear e5 hr3 Hs
              generalize laW h a k = v at *
              generalize tc t a x = z at *
              by_cases hv : 0 ≤ v
              · by_cases hz : (k : Int) - v - 1 < z
                · have H := Lib.hid (Hbad.out ⟨hv, hz⟩)
                  clear Hbad Hnxt
                  go_wp2_with fail
                  go_ret
                  exact ⟨ret_bool H.out, below_drewN (Below.refl _ _) _⟩
                · have H := Lib.hid (Hnxt.out (fun hh => hz hh.2))
                  clear Hbad Hnxt
                  go_wp2_with fail
                  go_roundw
                  case rel => exact ⟨a + 1, by omega, by go_num, H.out, _, rfl⟩
                  case measure => simp [intOf]; omega
              · have H := Lib.hid (Hnxt.out (fun hh => hv hh.1))
                clear Hbad Hnxt
                go_wp2_with fail
                go_roundw
                case rel => exact ⟨a + 1, by omega, by go_num, H.out, _, rfl⟩
                case measure => simp [intOf]; omega
            · obtain rfl : a = t.length := by omega
              have H := Lib.hid (show ∀ i', i' < i + 1 → ¬ ((∃ a ∈ m, 0 < tz t a (ga m i')) ∨ Early t h k (ga m i')) from fun i' hi' => by
                by_cases e : i' = i
                · subst e
                  rw [Hx.out]
                  rintro (⟨a, ha, hz⟩ | ⟨a, ha, h1, h2⟩)
                  · obtain ⟨j, hj, rfl⟩ := mem_ga ha
                    have := Hq.out j hj
                    omega
                  · rw [tz_nat] at h2
                    exact Hs.out a ha ⟨h1, h2⟩
                · exact Hp.out i' (by omega))
              clear Hs hlt3
              go_wp2_with fail
              go_roundw
              case rel => exact ⟨i + 1, by omega, by go_num, H.out, _, rfl⟩
              case measure => simp [intOf]; omega
    · obtain rfl : i = m.length := by omega
      have H := Lib.hid (show false = badB t h k from (Hno.out Hp.out).symm)
      clear Hp hlt
      go_wp2_with fail
      go_ret
      exact ⟨ret_bool H.out, below_drewN (Below.refl _ _) _⟩

theorem iValM_v (m : List Int) (n : Nat) (v : Bool) (hv : validM n m = v) (A : Option Addr) (c : Nat) (w : World) (hr : RdL fI w A m) (hl : m.length ≤ 1000000000) (hn : n ≤ 1000000000) :
    Calls Try.prog 54 #[.slice A m.length c, .int .i64 (n : Int)] w fun e w' => e = .returned (.bool v) ∧ Below w.heap.size w w' := by rw [← hv]; exact iValM_any m n A c w hr hl hn
theorem faultF_bad {t h : List (List Int)} (hn : ¬ GoodW t h) : faultF t h = -2 := faultF_no (dec_not.mpr hn)
set_option maxHeartbeats 1600000 in
theorem iFault_any (t h : List (List Int)) (T C : Option Addr) (c d : Nat) (w : World) (hr : RdSS fI w T t) (hh : RdSS fI w C h) (hn : t.length ≤ 1000000000) (hl : ∀ k, k < t.length → (gm t k).length ≤ 1000000000) (hn2 : h.length ≤ 1000000000) (hl2 : ∀ k, k < h.length → (gm h k).length ≤ 1000000000) :
    Calls Try.prog 24 #[.slice T t.length c, .slice C h.length d] w fun e w' => e = .returned (.int .i64 (faultF t h)) ∧ Below w.heap.size w w' := by
  go_enter Try.func24, Try.ntmps24
  cases hv : validC t with
  | false =>
    have H := Lib.hid (show -2 = faultF t h from (faultF_bad fun g => (dec_not.mp hv) g.c).symm)
    go_wp2_with fail
    refine (iValC_v t false hv T c _ hr hn hl).mono ?_
    rintro e w1 ⟨rfl, v1⟩
    clear hv
    go_wp2_with fail
    go_ret
    exact ⟨ret_int H.out, v1⟩
  | true =>
    have Hc := Lib.hid (dec_iff.mp hv)
    have hn8 := Hc.out.n2
    go_wp2_with fail
    refine (iValC_v t true hv T c _ hr hn hl).mono ?_
    rintro e w1 ⟨rfl, v1⟩
    clear hv
    by_cases h150 : 150 < h.length
    · have H := Lib.hid (show -2 = faultF t h from (faultF_bad fun g => by have := g.l; omega).symm)
      go_wp2_with fail
      go_ret
      exact ⟨ret_int H.out, v1⟩
    go_wp2_with fail
    go_loopw [20] (fun vi wr => ∃ k : Nat, k ≤ h.length ∧ vi = .int .i64 k ∧ (∀ j, j < k → GoodM t.length (gm h j)) ∧ Below w.heap.size w wr) (fun vi _ => h.length - (intOf vi).toNat)
    case atStart => exact ⟨0, Nat.zero_le _, rfl, fun j hj => by omega, v1⟩
    case round =>
      clear v1
      obtain ⟨k, hk, rfl, hp, hB⟩ := hrel
      have Hp := Lib.hid hp
      clear hp
      by_cases hlt : k < h.length
      · obtain ⟨b, o, A, c', rfl, hcw, hrd⟩ := rowAt hh hlt
        have hcell := (hB.cell (World.block_lt_of_cell? w _ hcw)).trans hcw
        have hrd2 := hrd.below hB
        cases hm : validM t.length (gm h k) with
        | false =>
          have hct := iValM_v (gm h k) t.length false hm A c' wr hrd2 (hl2 k hlt) hn
          have H := Lib.hid (show -2 = faultF t h from (faultF_bad fun g => (dec_not.mp hm) (g.m k hlt)).symm)
          clear hm hcw hrd
          go_wp2_with fail
          refine hct.mono ?_
          rintro e w2 ⟨rfl, v2⟩
          have hB2 := hB.trans (v2.mono hB.size)
          clear hct v2 hB
          go_wp2_with fail
          go_ret
          exact ⟨ret_int H.out, hB2⟩
        | true =>
          have hct := iValM_v (gm h k) t.length true hm A c' wr hrd2 (hl2 k hlt) hn
          have H := Lib.hid (show ∀ j, j < k + 1 → GoodM t.length (gm h j) from fun j hj => by
            by_cases e : j = k
            · subst e; exact dec_iff.mp hm
            · exact Hp.out j (by omega))
          clear hm hcw hrd Hp
          go_wp2_with fail
          refine hct.mono ?_
          rintro e w2 ⟨rfl, v2⟩
          have hB2 := hB.trans (v2.mono hB.size)
          clear hct v2 hB
          go_wp2_with fail
          go_roundw
          case rel => exact ⟨k + 1, by omega, by go_num, H.out, hB2⟩
          case measure => simp [intOf]; omega
      · obtain rfl : k = h.length := by omega
        have hg : GoodW t h := ⟨Hc.out, by omega, Hp.out⟩
        have Hg := Lib.hid hg
        have Hf := Lib.hid (faultF_yes hg)
        have hz := hB.size
        clear Hp hlt hg
        go_wp2_with fail
        refine (newWatch_any t T c _ hn8).mono ?_
        rintro e w2 ⟨gw, gl, rfl, hW, v2⟩
        have hB2 := hB.trans (v2.mono hz)
        have hlo2 : w.heap.size ≤ wr.heap.size := hz
        have hW2 : Wat w2 w.heap.size gw gl T c t (laL h t.length 0) := by rw [laL_zero]; exact ⟨hW.b, hW.o.mono hlo2, hW.l⟩
        have hgl : w.heap.size ≤ gl := Nat.le_trans hlo2 (hW.o.lt gl rfl).1
        clear hW v2 hB hz hlo2
        go_wp2_with fail
        go_loopw [34] (fun vi wr => ∃ k : Nat, k ≤ h.length ∧ vi = .int .i64 k ∧ (∀ j, j < k → badB t h j = false) ∧ Wat wr w.heap.size gw gl T c t (laL h t.length k) ∧ Below w.heap.size w wr) (fun vi _ => h.length - (intOf vi).toNat)
        case atStart => exact ⟨0, Nat.zero_le _, rfl, fun j hj => by omega, hW2, hB2⟩
        case round =>
          clear hW2 hB2
          obtain ⟨k, hk, rfl, hp, hW, hB⟩ := hrel
          have Hp := Lib.hid hp
          clear hp
          by_cases hlt : k < h.length
          · obtain ⟨b, o, A, c', rfl, hcw, hrd⟩ := rowAt hh hlt
            have hcell := (hB.cell (World.block_lt_of_cell? w _ hcw)).trans hcw
            have hrd2 := hrd.below hB
            have hct := isFault_any t h k T A c c' w.heap.size gw gl wr hW (hr.below hB) hrd2 Hg.out hlt
            have hAw : ∀ b, blk A = some b → (gm h k).length ≠ 0 → b < w.heap.size := fun b e h0 => by
              obtain ⟨b1, o1, e1, h1⟩ := hrd.at (k := 0) (by omega)
              rw [e1] at e
              simp at e
              subst e
              exact World.block_lt_of_cell? w _ h1
            cases hb : badB t h k with
            | true =>
              have H := Lib.hid (show (k : Int) = faultF t h by rw [Hf.out]; exact (fstN_at hlt hb Hp.out).symm)
              rw [hb] at hct
              clear hb hcw hrd Hp
              go_wp2_with fail
              refine hct.mono ?_
              rintro e w3 ⟨rfl, v3⟩
              have hB3 := hB.trans (v3.mono hB.size)
              clear hct v3 hB
              go_wp2_with fail
              go_ret
              exact ⟨ret_int H.out, hB3⟩
            | false =>
              have H := Lib.hid (show ∀ j, j < k + 1 → badB t h j = false from fun j hj => by
                by_cases e : j = k
                · subst e; exact hb
                · exact Hp.out j (by omega))
              rw [hb] at hct
              have Hend := Lib.hid (noteL_end (t := t) (h := h) (k := k) (Hg.out.m k hlt))
              clear hb hcw Hp
              go_wp2_with fail
              refine hct.mono ?_
              rintro e w3 ⟨rfl, v3⟩
              have hB3 := hB.trans (v3.mono hB.size)
              have hW3 := hW.below v3
              have hrd3 := hrd.below hB3
              have hgm := Hg.out.m k hlt
              clear hct v3 hB hW hrd2
              have hnt := note_any t (gm h k) (laL h t.length k) (k : Int) T A c c' w.heap.size gw gl w3 hW3 hrd3 hn8 hgm (fun b e h0 h2 => by have := hAw b e h0; omega)
              clear hAw hrd3
              go_wp2_with fail
              refine hnt.mono ?_
              rintro e w4 ⟨rfl, hW4, g4⟩
              have hB4 : Below w.heap.size w w4 := hB3.grown g4 hB3.size (fun x e => by injection e with e; omega)
              rw [Hend.out] at hW4
              clear hnt g4 hB3 hW3
              go_wp2_with fail
              go_roundw
              case rel => exact ⟨k + 1, by omega, by go_num, H.out, hW4, hB4⟩
              case measure => simp [intOf]; omega
          · obtain rfl : k = h.length := by omega
            have H := Lib.hid (show -1 = faultF t h by rw [Hf.out]; exact (fstN_none.mpr Hp.out).symm)
            clear Hp hlt
            go_wp2_with fail
            go_ret
            exact ⟨ret_int H.out, hB⟩
end Go.Proofs.Ytcckipckgnkieaa
