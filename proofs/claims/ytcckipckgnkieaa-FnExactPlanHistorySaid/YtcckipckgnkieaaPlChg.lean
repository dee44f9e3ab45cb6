/-
  The time between two phases: the program's and the reference's.
-/
import Derived.Test.YtcckipckgnkieaaPlFault3
namespace Go.Proofs.Ytcckipckgnkieaa
open Go.RowKit
set_option linter.unusedVariables false

set_option maxHeartbeats 800000 in
theorem isIn_v (m : List Int) (x : Int) (v : Bool) (hv : decide (x ∈ m) = v) (A : Option Addr) (c : Nat) (w : World) (hr : RdL fI w A m) (hl : m.length ≤ 1000000000) :
    Calls Try.prog 74 #[.slice A m.length c, .int .i64 x] w fun e w' => e = .returned (.bool v) ∧ Below w.heap.size w w' := by
  have Hv := Lib.hid hv
  clear hv
  go_enter Try.func74, Try.ntmps74
  go_wp2_with fail
  go_loopw [5] (fun vi wr => ∃ k : Nat, k ≤ m.length ∧ vi = .int .i64 k ∧ (∀ j, j < k → ga m j ≠ x) ∧ ∃ q, wr = w.drewN q) (fun vi _ => m.length - (intOf vi).toNat)
  case atStart => exact ⟨0, Nat.zero_le _, rfl, fun j h => by omega, 0, rfl⟩
  case round =>
    obtain ⟨k, hk, rfl, hp, q, rfl⟩ := hrel
    have Hp := Lib.hid hp
    clear hp
    by_cases hlt : k < m.length
    · obtain ⟨b, o, rfl, hel⟩ := elemAt hr hlt
      by_cases hx : ga m k = x
      · have H := Lib.hid (show true = v by rw [← Hv.out, ← hx]; simp [ga_mem hlt])
        have hb : (ga m k == x) = true := by simp [hx]
        generalize ga m k = y at *
        clear Hp hx
        go_wp2_with fail
        go_ret
        exact ⟨ret_bool H.out, below_drewN (Below.refl _ _) _⟩
      · have H := Lib.hid (show ∀ j, j < k + 1 → ga m j ≠ x from fun j hj => by
          by_cases e : j = k
          · subst e; exact hx
          · exact Hp.out j (by omega))
        have hb : (ga m k == x) = false := by simp [hx]
        generalize ga m k = y at *
        clear Hp hx
        go_wp2_with fail
        go_roundw
        case rel => exact ⟨k + 1, by omega, by go_num, H.out, _, rfl⟩
        case measure => simp [intOf]; omega
    · obtain rfl : k = m.length := by omega
      have H := Lib.hid (show false = v by
        rw [← Hv.out]
        refine (decide_eq_false fun hm => ?_).symm
        obtain ⟨j, hj, e⟩ := mem_ga hm
        exact Hp.out j hj e)
      clear Hp hlt
      go_wp2_with fail
      go_ret
      exact ⟨ret_bool H.out, below_drewN (Below.refl _ _) _⟩

set_option maxHeartbeats 800000 in
theorem index_any (m : List Int) (x : Int) (A : Option Addr) (c : Nat) (w : World) (hr : RdL fI w A m) (hl : m.length ≤ 1000000000) :
    Calls Try.prog 95 #[.slice A m.length c, .int .i64 x] w fun e w' => (∃ i, e = .returned (.int .i64 i) ∧ decide (0 ≤ i) = decide (x ∈ m)) ∧ Below w.heap.size w w' := by
  go_enter Try.func95, Try.ntmps95
  go_wp2_with fail
  go_loopw [8] (fun vi wr => ∃ k : Nat, k ≤ m.length ∧ vi = .int .i64 k ∧ (∀ j, j < k → ga m j ≠ x) ∧ ∃ q, wr = w.drewN q) (fun vi _ => m.length - (intOf vi).toNat)
  case atStart => exact ⟨0, Nat.zero_le _, rfl, fun j h => by omega, 0, rfl⟩
  case round =>
    obtain ⟨k, hk, rfl, hp, q, rfl⟩ := hrel
    have Hp := Lib.hid hp
    clear hp
    by_cases hlt : k < m.length
    · obtain ⟨b, o, rfl, hel⟩ := elemAt hr hlt
      by_cases hx : ga m k = x
      · have H := Lib.hid (show x ∈ m by rw [← hx]; exact ga_mem hlt)
        have hb : (x == ga m k) = true := by simp [hx]
        generalize ga m k = y at *
        clear Hp hx
        go_wp2_with fail
        go_ret
        exact ⟨⟨_, rfl, by simp [H.out]⟩, below_drewN (Below.refl _ _) _⟩
      · have H := Lib.hid (show ∀ j, j < k + 1 → ga m j ≠ x from fun j hj => by
          by_cases e : j = k
          · subst e; exact hx
          · exact Hp.out j (by omega))
        have hb : (x == ga m k) = false := by simp [Ne.symm hx]
        generalize ga m k = y at *
        clear Hp hx
        go_wp2_with fail
        go_roundw
        case rel => exact ⟨k + 1, by omega, by go_num, H.out, _, rfl⟩
        case measure => simp [intOf]; omega
    · obtain rfl : k = m.length := by omega
      have H := Lib.hid (show x ∉ m from fun hm => by
        obtain ⟨j, hj, e⟩ := mem_ga hm
        exact Hp.out j hj e)
      clear Hp hlt
      go_wp2_with fail
      go_ret
      exact ⟨⟨_, rfl, by simp [H.out]⟩, below_drewN (Below.refl _ _) _⟩

set_option maxHeartbeats 800000 in
theorem contains_v (m : List Int) (x : Int) (v : Bool) (hv : decide (x ∈ m) = v) (A : Option Addr) (c : Nat) (w : World) (hr : RdL fI w A m) (hl : m.length ≤ 1000000000) :
    Calls Try.prog 77 #[.slice A m.length c, .int .i64 x] w fun e w' => e = .returned (.bool v) ∧ Below w.heap.size w w' := by
  have Hv := Lib.hid hv
  clear hv
  go_enter Try.func77, Try.ntmps77
  go_wp2_with fail
  refine (index_any m x A c _ hr hl).mono ?_
  rintro e w1 ⟨⟨i, rfl, hi⟩, v1⟩
  have H := Lib.hid (show decide (0 ≤ i) = v by rw [hi, Hv.out])
  clear hi
  go_wp2_with fail
  go_ret
  exact ⟨ret_bool H.out, v1⟩

theorem max_if (a b : Int) : (if a < b then b else a) = max a b := by
  rw [Int.max_def]; split <;> split <;> omega
/-- What the inner loop knows. -/
def sI (t : List (List Int)) (f g : List Int) (i k : Nat) : Int := if ga f i ∈ g then chO t f g i else chI t f g (ga f i) k (chO t f g i)
theorem sI_zero (t : List (List Int)) (f g : List Int) (i : Nat) : sI t f g i 0 = chO t f g i := by unfold sI; split <;> rfl
theorem sI_end (t : List (List Int)) (f g : List Int) (i : Nat) : sI t f g i g.length = chO t f g (i + 1) := rfl
theorem sI_in {t : List (List Int)} {f g : List Int} {i : Nat} (h : ga f i ∈ g) (k : Nat) : sI t f g i (k + 1) = sI t f g i k := by unfold sI; rw [if_pos h, if_pos h]
theorem sI_in2 {t : List (List Int)} {f g : List Int} {i k : Nat} (h2 : ga g k ∈ f) : sI t f g i (k + 1) = sI t f g i k := by
  unfold sI
  split
  · rfl
  · rw [chI, if_pos h2]
theorem sI_out {t : List (List Int)} {f g : List Int} {i k : Nat} (h : ga f i ∉ g) (h2 : ga g k ∉ f) : sI t f g i (k + 1) = max (sI t f g i k) (tz t (ga f i) (ga g k)) := by
  unfold sI
  rw [if_neg h, if_neg h, chI, if_neg h2]

set_option maxHeartbeats 1600000 in
theorem sChg_v (t : List (List Int)) (f g : List Int) (v : Int) (hv : chF t f g = v) (T F G : Option Addr) (c d e0 : Nat) (w : World) (hr : RdSS fI w T t) (hF : RdL fI w F f) (hG : RdL fI w G g) (hc : GoodC t) (hf : GoodM t.length f) (hg : GoodM t.length g) :
    Calls Try.prog 93 #[.slice T t.length c, .slice F f.length d, .slice G g.length e0] w fun e w' => e = .returned (.int .i64 v) ∧ Below w.heap.size w w' := by
  have hn8 := hc.n2
  have hfl := hf.len
  have hgl := hg.len
  have Hv := Lib.hid hv
  have Hc := Lib.hid hc
  have Hf := Lib.hid hf
  have Hg := Lib.hid hg
  clear hc hf hg hv
  go_enter Try.func93, Try.ntmps93
  go_wp2_with fail
  go_loopw [7, 8] (fun vm vi wr => ∃ i : Nat, i ≤ f.length ∧ vi = .int .i64 i ∧ vm = .int .i64 (chO t f g i) ∧ Below w.heap.size w wr) (fun _ vi _ => f.length - (intOf vi).toNat)
  case atStart => exact ⟨0, Nat.zero_le _, rfl, rfl, Below.refl _ _⟩
  case round =>
    obtain ⟨i, hi, rfl, rfl, hB⟩ := hrel
    by_cases hlt : i < f.length
    · obtain ⟨b, o, rfl, hel⟩ := elemAt hF hlt
      have hz0 := Lib.hid (sI_zero t f g i)
      have hz1 := Lib.hid (sI_end t f g i)
      have hb := Hf.out.get hlt
      obtain ⟨x, hx⟩ : ∃ x : Nat, ga f i = (x : Int) := ⟨_, (Int.toNat_of_nonneg hb.1).symm⟩
      have Hx := Lib.hid hx
      rw [hx] at hel hb
      have hxl : x < t.length := by omega
      obtain ⟨b3, o3, A3, c3, rfl, hc3, hr3⟩ := rowAt hr hxl
      rw [Hc.out.rl x hxl] at hc3
      have Hr3 := Lib.hid hr3
      clear hr3 hx
      rw [← hz0.out]
      clear hz0
      go_wp2_with fail
      go_loopw [7, 9] (fun vm vj wr => ∃ j : Nat, j ≤ g.length ∧ vj = .int .i64 j ∧ vm = .int .i64 (sI t f g i j) ∧ Below w.heap.size w wr) (fun _ vj _ => g.length - (intOf vj).toNat)
      case atStart => exact ⟨0, Nat.zero_le _, rfl, rfl, hB⟩
      case round =>
        clear hB
        obtain ⟨j, hj, rfl, rfl, hB⟩ := hrel
        have hel1 := (hB.cell (World.block_lt_of_cell? w _ hel)).trans hel
        by_cases hlt2 : j < g.length
        · obtain ⟨b2, o2, rfl, hel2⟩ := elemAt hG hlt2
          have hel2' := (hB.cell (World.block_lt_of_cell? w _ hel2)).trans hel2
          have hct := isIn_v g (x : Int) (decide ((x : Int) ∈ g)) rfl (some ⟨b2, o2, none⟩) e0 wr (hG.below hB) (by omega)
          by_cases h1 : (x : Int) ∈ g
          · have H := Lib.hid (sI_in (t := t) (f := f) (g := g) (i := i) (by rw [Hx.out]; exact h1) j)
            rw [decide_eq_true h1] at hct
            generalize sI t f g i j = s at *
            clear h1 hel2
            go_wp2_with fail
            refine hct.mono ?_
            rintro e w2 ⟨rfl, v2⟩
            have hB2 := hB.trans (v2.mono hB.size)
            clear hct v2 hB
            go_wp2_with fail
            go_roundw
            case rel => exact ⟨j + 1, by omega, by go_num, by rw [H.out], hB2⟩
            case measure => simp [intOf]; omega
          · have hb2 := Hg.out.get hlt2
            obtain ⟨y, hy⟩ : ∃ y : Nat, ga g j = (y : Int) := ⟨_, (Int.toNat_of_nonneg hb2.1).symm⟩
            have Hy := Lib.hid hy
            rw [hy] at hel2 hel2' hb2
            have hyl : y < t.length := by omega
            obtain ⟨b4, o4, rfl, hel4⟩ := elemAt Hr3.out (k := y) (by rw [Hc.out.rl x hxl]; exact hyl)
            rw [show ga (gm t x) y = tc t x y from rfl] at hel4
            have Htz := Lib.hid (tz_nat t x y)
            have hct2 := fun W (hW : Below w.heap.size w W) => isIn_v f (y : Int) (decide ((y : Int) ∈ f)) rfl (some ⟨b, o, none⟩) d W (hF.below hW) (by omega)
            rw [decide_eq_false h1] at hct
            by_cases h2 : (y : Int) ∈ f
            · have H := Lib.hid (sI_in2 (t := t) (f := f) (g := g) (i := i) (k := j) (by rw [Hy.out]; exact h2))
              rw [decide_eq_true h2] at hct2
              generalize sI t f g i j = s at *
              clear h1 hel2 h2 hel4 hy
              go_wp2_with fail
              refine hct.mono ?_
              rintro e w2 ⟨rfl, v2⟩
              have hB2 := hB.trans (v2.mono hB.size)
              have hel3 := (v2.cell (World.block_lt_of_cell? wr _ hel2')).trans hel2'
              have hct3 := hct2 w2 hB2
              clear hct v2 hB hct2
              go_wp2_with fail
              refine hct3.mono ?_
              rintro e w3 ⟨rfl, v3⟩
              have hB3 := hB2.trans (v3.mono hB2.size)
              clear hct3 v3 hB2
              go_wp2_with fail
              go_roundw
              case rel => exact ⟨j + 1, by omega, by go_num, by rw [H.out], hB3⟩
              case measure => simp [intOf]; omega
            · have H := Lib.hid (sI_out (t := t) (f := f) (g := g) (i := i) (k := j) (by rw [Hx.out]; exact h1) (by rw [Hy.out]; exact h2))
              rw [decide_eq_false h2] at hct2
              generalize sI t f g i j = s at *
              clear h1 hel2 h2 hy
              have hxt : (x : Int) < (t.length : Int) := by omega
              have hyt : (y : Int) < (t.length : Int) := by omega
              have hif : (i : Int) < (f.length : Int) := by omega
              have hjg : (j : Int) < (g.length : Int) := by omega
              go_wp2_with fail
              refine hct.mono ?_
              rintro e w2 ⟨rfl, v2⟩
              have hB2 := hB.trans (v2.mono hB.size)
              have hel3 := (v2.cell (World.block_lt_of_cell? wr _ hel2')).trans hel2'
              have hct3 := hct2 w2 hB2
              clear hct v2 hB hct2
              go_wp2_with fail
              refine hct3.mono ?_
              rintro e w3 ⟨rfl, v3⟩
              have hB3 := hB2.trans (v3.mono hB2.size)
              have k1 := (hB3.cell (World.block_lt_of_cell? w _ hel)).trans hel
              have k2 := (v3.cell (World.block_lt_of_cell? w2 _ hel3)).trans hel3
              have k3 := (hB3.cell (World.block_lt_of_cell? w _ hc3)).trans hc3
              have k4 := (hB3.cell (World.block_lt_of_cell? w _ hel4)).trans hel4
              clear hct3 v3 hB2 hel hel1 hel2' hel3 hc3 hel4
              generalize tc t x y = z at *
              go_wp2_with fail
              go_quiet (fail)
              go_wp2_with fail
              go_roundw
              case rel => exact ⟨j + 1, by omega, by go_num, by rw [H.out, Hx.out, Hy.out, Htz.out, ← max_if], below_drewN hB3 _⟩
              case measure => simp [intOf]; omega
        · obtain rfl : j = g.length := by omega
          rw [hz1.out]
          go_wp2_with fail
          go_roundw
          case rel => exact ⟨i + 1, by omega, by go_num, rfl, hB⟩
          case measure => simp [intOf]; omega
    · obtain rfl : i = f.length := by omega
      have H := Lib.hid (show chO t f g f.length = v from Hv.out)
      go_wp2_with fail
      go_ret
      exact ⟨ret_int H.out, hB⟩
set_option maxHeartbeats 1600000 in
theorem iChg_v (t : List (List Int)) (f g : List Int) (v : Int) (hv : chF t f g = v) (T F G : Option Addr) (c d e0 : Nat) (w : World) (hr : RdSS fI w T t) (hF : RdL fI w F f) (hG : RdL fI w G g) (hc : GoodC t) (hf : GoodM t.length f) (hg : GoodM t.length g) :
    Calls Try.prog 94 #[.slice T t.length c, .slice F f.length d, .slice G g.length e0] w fun e w' => e = .returned (.int .i64 v) ∧ Below w.heap.size w w' := by
  have hn8 := hc.n2
  have hfl := hf.len
  have hgl := hg.len
  have Hv := Lib.hid hv
  have Hc := Lib.hid hc
  have Hf := Lib.hid hf
  have Hg := Lib.hid hg
  clear hc hf hg hv
  go_enter Try.func94, Try.ntmps94
  go_wp2_with fail
  go_loopw [7, 14] (fun vm vi wr => ∃ i : Nat, i ≤ f.length ∧ vi = .int .i64 i ∧ vm = .int .i64 (chO t f g i) ∧ Below w.heap.size w wr) (fun _ vi _ => f.length - (intOf vi).toNat)
  case atStart => exact ⟨0, Nat.zero_le _, rfl, rfl, Below.refl _ _⟩
  case round =>
    obtain ⟨i, hi, rfl, rfl, hB⟩ := hrel
    by_cases hlt : i < f.length
    · obtain ⟨b, o, rfl, hel⟩ := elemAt hF hlt
      have hel1 := (hB.cell (World.block_lt_of_cell? w _ hel)).trans hel
      have hz0 := Lib.hid (sI_zero t f g i)
      have hz1 := Lib.hid (sI_end t f g i)
      have hb := Hf.out.get hlt
      obtain ⟨x, hx⟩ : ∃ x : Nat, ga f i = (x : Int) := ⟨_, (Int.toNat_of_nonneg hb.1).symm⟩
      have Hx := Lib.hid hx
      rw [hx] at hel hel1 hb
      have hxl : x < t.length := by omega
      obtain ⟨b3, o3, A3, c3, rfl, hc3, hr3⟩ := rowAt hr hxl
      rw [Hc.out.rl x hxl] at hc3
      have Hr3 := Lib.hid hr3
      clear hr3 hx
      have hct := contains_v g (x : Int) (decide ((x : Int) ∈ g)) rfl G e0 wr (hG.below hB) (by omega)
      by_cases h1 : (x : Int) ∈ g
      · have H := Lib.hid (show chO t f g (i + 1) = chO t f g i by rw [chO, if_pos (by rw [Hx.out]; exact h1)])
        rw [decide_eq_true h1] at hct
        generalize chO t f g i = s at *
        clear h1 hel
        go_wp2_with fail
        refine hct.mono ?_
        rintro e w2 ⟨rfl, v2⟩
        have hB2 := hB.trans (v2.mono hB.size)
        clear hct v2 hB
        go_wp2_with fail
        go_roundw
        case rel => exact ⟨i + 1, by omega, by go_num, by rw [H.out], hB2⟩
        case measure => simp [intOf]; omega
      rw [decide_eq_false h1] at hct
      rw [← hz0.out]
      clear hz0 hel
      go_wp2_with fail
      refine hct.mono ?_
      rintro e w2 ⟨rfl, v2⟩
      have hB2 := hB.trans (v2.mono hB.size)
      clear hct v2 hB hel1
      go_wp2_with fail
      go_loopw [7, 23] (fun vm vj wr => ∃ j : Nat, j ≤ g.length ∧ vj = .int .i64 j ∧ vm = .int .i64 (sI t f g i j) ∧ Below w.heap.size w wr) (fun _ vj _ => g.length - (intOf vj).toNat)
      case atStart => exact ⟨0, Nat.zero_le _, rfl, rfl, hB2⟩
      case round =>
        clear hB2
        obtain ⟨j, hj, rfl, rfl, hB⟩ := hrel
        by_cases hlt2 : j < g.length
        · obtain ⟨b2, o2, rfl, hel2⟩ := elemAt hG hlt2
          have hel2' := (hB.cell (World.block_lt_of_cell? w _ hel2)).trans hel2
          have hb2 := Hg.out.get hlt2
          obtain ⟨y, hy⟩ : ∃ y : Nat, ga g j = (y : Int) := ⟨_, (Int.toNat_of_nonneg hb2.1).symm⟩
          have Hy := Lib.hid hy
          rw [hy] at hel2 hel2' hb2
          have hyl : y < t.length := by omega
          obtain ⟨b4, o4, rfl, hel4⟩ := elemAt Hr3.out (k := y) (by rw [Hc.out.rl x hxl]; exact hyl)
          rw [show ga (gm t x) y = tc t x y from rfl] at hel4
          have Htz := Lib.hid (tz_nat t x y)
          have hct := contains_v f (y : Int) (decide ((y : Int) ∈ f)) rfl (some ⟨b, o, none⟩) d wr (hF.below hB) (by omega)
          by_cases h2 : (y : Int) ∈ f
          · have H := Lib.hid (sI_in2 (t := t) (f := f) (g := g) (i := i) (k := j) (by rw [Hy.out]; exact h2))
            rw [decide_eq_true h2] at hct
            generalize sI t f g i j = s at *
            clear h1 hel2 h2 hel4 hy
            go_wp2_with fail
            refine hct.mono ?_
            rintro e w3 ⟨rfl, v3⟩
            have hB3 := hB.trans (v3.mono hB.size)
            clear hct v3 hB
            go_wp2_with fail
            go_roundw
            case rel => exact ⟨j + 1, by omega, by go_num, by rw [H.out], hB3⟩
            case measure => simp [intOf]; omega
          · have H := Lib.hid (sI_out (t := t) (f := f) (g := g) (i := i) (k := j) (by rw [Hx.out]; exact h1) (by rw [Hy.out]; exact h2))
            rw [decide_eq_false h2] at hct
            generalize sI t f g i j = s at *
            clear h1 hel2 h2 hy
            have hxt : (x : Int) < (t.length : Int) := by omega
            have hyt : (y : Int) < (t.length : Int) := by omega
            go_wp2_with fail
            refine hct.mono ?_
            rintro e w3 ⟨rfl, v3⟩
            have hB3 := hB.trans (v3.mono hB.size)
            have k3 := (hB3.cell (World.block_lt_of_cell? w _ hc3)).trans hc3
            have k4 := (hB3.cell (World.block_lt_of_cell? w _ hel4)).trans hel4
            clear hct v3 hB hc3 hel4 hel2'
            generalize tc t x y = z at *
            go_wp2_with fail
            go_roundw
            case rel => exact ⟨j + 1, by omega, by go_num, by rw [H.out, Hx.out, Hy.out, Htz.out, ← max_if], hB3⟩
            case measure => simp [intOf]; omega
        · obtain rfl : j = g.length := by omega
          rw [hz1.out]
          go_wp2_with fail
          go_roundw
          case rel => exact ⟨i + 1, by omega, by go_num, rfl, hB⟩
          case measure => simp [intOf]; omega
    · obtain rfl : i = f.length := by omega
      have H := Lib.hid (show chO t f g f.length = v from Hv.out)
      go_wp2_with fail
      go_ret
      exact ⟨ret_int H.out, hB⟩
end Go.Proofs.Ytcckipckgnkieaa
