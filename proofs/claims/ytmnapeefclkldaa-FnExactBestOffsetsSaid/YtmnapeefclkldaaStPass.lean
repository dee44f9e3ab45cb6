/-
  Streets: the reference's passes; PassesStreet and BandOf on both sides.
-/
import Derived.Test.YtmnapeefclkldaaStVal
namespace Go.Proofs.Ytmnapeefclkldaa
open Go.RowKit
set_option linter.unusedVariables false

set_option maxHeartbeats 3200000 in
theorem sPass_any (s : St) (os : List Int) (G T O : Option Addr) (c d f : Nat) (t : Int) (w : World) (hs : RdS w s G T) (ho : RdL fI w O os) (hv : GoodO s os) (ht0 : 0 ≤ t) (ht1 : t ≤ 20000) :
    Calls Try.prog 41 #[strV s G T c d, .slice O os.length f, .int .i64 t] w fun e w' => e = .returned (.bool (passF s os t)) ∧ Below w.heap.size w w' := by
  have bx := Blk.new w 27 (strC s G T c d)
  obtain ⟨hg, ht, -, -⟩ := hs.alloc (.cells (strC s G T c d) 27)
  replace ho := ho.alloc (.cells (strC s G T c d) 27)
  have hB := (Below.refl w.heap.size w).alloc (Nat.le_refl _) (.cells (strC s G T c d) 27)
  clear hs
  go_enter Try.func41, Try.ntmps41
  go_wp2_with fail
  generalize w.alloc (.cells (strC s G T c d) 27) = w1 at *
  obtain ⟨gb, hgb⟩ : ∃ gb, gb = w.heap.size := ⟨_, rfl⟩
  rw [← hgb] at bx
  simp only [← hgb]
  clear hgb
  have hgr4 := hv.g.g2
  have htl := hv.g.tl
  have hol := hv.ol
  have Htl := Lib.hid htl
  have Hol := Lib.hid hol
  have Hv := Lib.hid hv
  clear htl hol hv
  go_loopw [2, 7] (fun vt vi wr => ∃ k : Nat, k ≤ s.gr.length ∧ vi = .int .i64 k ∧ vt = .int .i64 (t + goT s (k - 1)) ∧ passN s os t k = true ∧ ∃ m, wr = w1.drewN m) (fun _ vi _ => s.gr.length - (intOf vi).toNat)
  case atStart => exact ⟨0, Nat.zero_le _, rfl, by simp [goT_zero], by simp [passN], 0, rfl⟩
  case round =>
    obtain ⟨k, hk, rfl, rfl, hp, m, rfl⟩ := hrel
    obtain ⟨q0, q1, q2⟩ := loadS bx
    by_cases hlt : k < s.gr.length
    case neg =>
      obtain rfl : k = s.gr.length := by omega
      have H := Lib.hid (show true = passF s os t from hp.symm)
      go_wp2_with fail
      go_ret
      exact ⟨ret_bool H.out, below_drewN hB _⟩
    have hko : k < os.length := by have := Hol.out; omega
    have hbd := goT_bd Hv.out.g k (by have := Htl.out; omega)
    obtain ⟨b1, o1, rfl, hcg⟩ := hg.at hlt
    obtain ⟨b2, o2, rfl, hco⟩ := ho.at hko
    rw [ga_at hlt] at hcg
    rw [ga_at hko] at hco
    have hob := Hv.out.ob k hko
    have hgb := Hv.out.g.gb k hlt
    have hc1 := Hv.out.g.c1
    have hc2 := Hv.out.g.c2
    have hok : Hid (okAt s os t k = decide ((t + goT s k - ga os k + s.cy) % s.cy < ga s.gr k)) := Lib.hid (by unfold okAt; rw [show t + goT s k - ga os k + s.cy = t + goT s k + s.cy - ga os k by omega])
    have hsucc := Lib.hid (passN_succ s os t k)
    have hno : Hid (okAt s os t k = false → passF s os t = false) := Lib.hid (passF_not hlt)
    have Hp := Lib.hid hp
    clear hp
    obtain ⟨v, hV⟩ : ∃ v, v = t + goT s k := ⟨_, rfl⟩
    have hvb : 0 ≤ v ∧ v ≤ 20300 := by omega
    rw [← hV] at hok
    have HV := Lib.hid hV
    generalize ga os k = o at *
    generalize ga s.gr k = g at *
    simp only [fI] at hcg hco
    have hx0 : 0 ≤ v - o + s.cy := by omega
    by_cases hk0 : k = 0
    · subst hk0
      have hv0 : v = t := by rw [hV, goT_zero]; omega
      subst hv0
      simp only [Nat.add_zero] at hcg hco
      clear hV
      rw [goT_zero]
      by_cases hx : (v - o + s.cy) % s.cy < g
      · have d1 : decide ((v - o + s.cy) % s.cy ≥ g) = false := decide_eq_false (by omega)
        have d2 : (v - o) % s.cy < g := by rw [← Int.add_emod_right]; exact hx
        clear d1
        have HX := Lib.hid hx
        clear hx
        go_wp2_with fail
        go_quiet (fail)
        go_wp2_with fail
        go_roundw
        case rel => exact ⟨1, by omega, by go_num, by simp [goT_zero], by rw [hsucc.out, Hp.out, hok.out, decide_eq_true HX.out]; rfl, _, rfl⟩
        case measure => simp [intOf]; omega
      · have d1 : decide ((v - o + s.cy) % s.cy ≥ g) = true := decide_eq_true (by omega)
        have d2 : g ≤ (v - o) % s.cy := by rw [← Int.add_emod_right]; omega
        clear d1
        have HX := Lib.hid hx
        clear hx
        go_wp2_with fail
        go_quiet (fail)
        go_wp2_with fail
        go_ret
        exact ⟨ret_bool (hno.out (by rw [hok.out, decide_eq_false (by have := HX.out; omega)])).symm, below_drewN (below_drewN hB _) _⟩
    · obtain ⟨j, rfl⟩ : ∃ j, k = j + 1 := ⟨k - 1, by omega⟩
      have hjt : j < s.tr.length := by have := Htl.out; omega
      obtain ⟨b3, o3, rfl, hct⟩ := ht.at hjt
      rw [ga_at hjt] at hct
      have hgp := goT_pred s j hjt
      have htb := Hv.out.g.tb j hjt
      have hbd2 := goT_bd Hv.out.g j (by omega)
      simp only [Nat.add_sub_cancel] at hgp ⊢
      generalize ga s.tr j = r at *
      obtain ⟨u, hu⟩ : ∃ u, u = t + goT s j := ⟨_, rfl⟩
      have hub : 0 ≤ u ∧ u ≤ 20300 := by omega
      have huv : u + r = v := by omega
      rw [← hu]
      have HU := Lib.hid hu
      clear hu hV hgp
      simp only [fI] at hct
      have HUV := Lib.hid huv
      have hw1 : 0 ≤ u + r ∧ u + r ≤ 20400 := by omega
      have hx1 : 0 ≤ u + r - o + s.cy := by omega
      by_cases hx : (u + r - o + s.cy) % s.cy < g
      · have d1 : decide ((u + r - o + s.cy) % s.cy ≥ g) = false := decide_eq_false (by omega)
        have d2 : (u + r - o) % s.cy < g := by rw [← Int.add_emod_right]; exact hx
        clear d1
        have HX := Lib.hid hx
        clear hx huv
        go_wp2_with fail
        go_quiet (fail)
        go_wp2_with fail
        go_roundw
        case rel => exact ⟨j + 2, by omega, by go_num, by show _ = Value.int .i64 (t + goT s (j + 1)); rw [← HV.out, HUV.out], by rw [hsucc.out, Hp.out, hok.out, ← HUV.out, decide_eq_true HX.out]; rfl, _, rfl⟩
        case measure => simp [intOf]; omega
      · have d1 : decide ((u + r - o + s.cy) % s.cy ≥ g) = true := decide_eq_true (by omega)
        have d2 : g ≤ (u + r - o) % s.cy := by rw [← Int.add_emod_right]; omega
        clear d1
        have HX := Lib.hid hx
        clear hx huv
        go_wp2_with fail
        go_quiet (fail)
        go_wp2_with fail
        go_ret
        exact ⟨ret_bool (hno.out (by rw [hok.out, ← HUV.out, decide_eq_false (by have := HX.out; omega)])).symm, below_drewN (below_drewN hB _) _⟩
end Go.Proofs.Ytmnapeefclkldaa
