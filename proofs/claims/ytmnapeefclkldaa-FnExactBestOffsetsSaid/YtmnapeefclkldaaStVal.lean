/-
  Streets: validity, cars that pass.
-/
import Derived.Test.YtmnapeefclkldaaStMath
import Derived.Test.YtmnapeefclkldaaReg
namespace Go.Proofs.Ytmnapeefclkldaa
open Go.RowKit
set_option linter.unusedVariables false

abbrev strC (s : St) (G T : Option Addr) (c d : Nat) : Array Value := #[.int .i64 s.cy, .slice G s.gr.length c, .slice T s.tr.length d]
abbrev strV (s : St) (G T : Option Addr) (c d : Nat) : Value := .agg (strC s G T c d)
theorem loadS {w : World} {g : Nat} {t : TypeId} {s : St} {G T : Option Addr} {c d : Nat} (h : Blk w g t (strC s G T c d)) :
    w.cell? ⟨g, 0, none⟩ = some (.int .i64 s.cy) ∧ w.cell? ⟨g, 1, none⟩ = some (.slice G s.gr.length c) ∧ w.cell? ⟨g, 2, none⟩ = some (.slice T s.tr.length d) :=
  ⟨h.cell 0, h.cell 1, h.cell 2⟩
theorem inB_iff {x lo hi : Int} : inB x lo hi = true ↔ lo ≤ x ∧ x ≤ hi := by simp [inB]
/-- A street whose lists are read. -/
structure RdS (w : World) (s : St) (G T : Option Addr) : Prop where
  hg : RdL fI w G s.gr
  ht : RdL fI w T s.tr
  ng : s.gr.length ≤ 2000000
  nt : s.tr.length ≤ 2000000
theorem RdS.below {w w' : World} {s : St} {G T : Option Addr} (h : RdS w s G T) (hb : Below w.heap.size w w') : RdS w' s G T := ⟨h.hg.below hb, h.ht.below hb, h.ng, h.nt⟩
theorem RdS.alloc {w : World} {s : St} {G T : Option Addr} (h : RdS w s G T) (o : Obj) : RdS (w.alloc o) s G T := h.below ((Below.refl _ _).alloc (Nat.le_refl _) _)
theorem RdS.drew {w : World} {s : St} {G T : Option Addr} (h : RdS w s G T) : RdS w.drew s G T := h.below (Below.refl _ _).drew

set_option maxHeartbeats 1600000 in
theorem sValidT_any (s : St) (G T : Option Addr) (c d : Nat) (w : World) (hs : RdS w s G T) :
    Calls Try.prog 45 #[strV s G T c d] w fun e w' => e = .returned (.bool (validT s)) ∧ Below w.heap.size w w' := by
  obtain ⟨cy, gr, tr⟩ := s
  obtain ⟨hg, ht, ng, nt⟩ := hs.alloc (.cells (strC ⟨cy, gr, tr⟩ G T c d) 27)
  simp only at hg ht ng nt
  have hbox := (Below.refl w.heap.size w).alloc (Nat.le_refl _) (.cells (strC ⟨cy, gr, tr⟩ G T c d) 27)
  clear hs
  go_enter Try.func45, Try.ntmps45
  go_wp2_with fail
  refine (inRange_any _ _ _ _).mono ?_
  cases h1 : inB cy 1 30
  · rintro e w' ⟨rfl, rfl⟩
    go_wp2_with fail
    go_ret
    exact ⟨by simp [validT, h1], hbox⟩
  rintro e w' ⟨rfl, rfl⟩
  go_wp2_with fail
  refine (inRange_any _ _ _ _).mono ?_
  cases h2 : inB (gr.length : Int) 1 4
  · rintro e w' ⟨rfl, rfl⟩
    go_wp2_with fail
    go_ret
    exact ⟨by simp [validT, h1, h2], hbox⟩
  obtain ⟨s1, s2⟩ := inB_iff.mp h2
  rintro e w' ⟨rfl, rfl⟩
  by_cases h3 : ((tr.length : Nat) : Int) = ((gr.length : Nat) : Int) - 1
  case neg =>
    have h7 : (((tr.length : Nat) : Int) == ((gr.length : Nat) : Int) - 1) = false := by simpa using h3
    go_wp2_with fail
    go_ret
    exact ⟨by simp [validT, h1, h2, h3], hbox⟩
  have h7 : (((tr.length : Nat) : Int) == ((gr.length : Nat) : Int) - 1) = true := by simpa using h3
  have H3 := Lib.hid h3
  clear h3
  go_wp2_with fail
  refine (allIn_any _ _ _ _ _ _ hg (by omega)).mono ?_
  cases h4 : allB gr 0 cy
  · rintro e w' ⟨rfl, rfl⟩
    go_wp2_with fail
    go_ret
    exact ⟨by simp [validT, h1, h2, H3.out, h4], hbox⟩
  rintro e w' ⟨rfl, rfl⟩
  go_wp2_with fail
  refine (allIn_any _ _ _ _ _ _ ht (by omega)).mono ?_
  rintro e w' ⟨rfl, rfl⟩
  have H := Lib.hid (show allB tr 0 60 = validT ⟨cy, gr, tr⟩ by simp [validT, h1, h2, H3.out, h4])
  go_wp2_with fail
  go_ret
  exact ⟨ret_bool H.out, hbox⟩

set_option maxHeartbeats 1600000 in
theorem iValidT_any (s : St) (G T : Option Addr) (c d : Nat) (w : World) (hs : RdS w s G T) :
    Calls Try.prog 47 #[strV s G T c d] w fun e w' => e = .returned (.bool (validT s)) ∧ Below w.heap.size w w' := by
  obtain ⟨cy, gr, tr⟩ := s
  obtain ⟨hg, ht, ng, nt⟩ := hs.alloc (.cells (strC ⟨cy, gr, tr⟩ G T c d) 27)
  simp only at hg ht ng nt
  have hbox := (Below.refl w.heap.size w).alloc (Nat.le_refl _) (.cells (strC ⟨cy, gr, tr⟩ G T c d) 27)
  clear hs
  go_enter Try.func47, Try.ntmps47
  go_wp2_with fail
  refine (within_any _ _ _ _).mono ?_
  cases h1 : inB cy 1 30
  · rintro e w' ⟨rfl, rfl⟩
    go_wp2_with fail
    go_ret
    exact ⟨by simp [validT, h1], hbox⟩
  rintro e w' ⟨rfl, rfl⟩
  go_wp2_with fail
  refine (within_any _ _ _ _).mono ?_
  cases h2 : inB (gr.length : Int) 1 4
  · rintro e w' ⟨rfl, rfl⟩
    go_wp2_with fail
    go_ret
    exact ⟨by simp [validT, h1, h2], hbox⟩
  obtain ⟨s1, s2⟩ := inB_iff.mp h2
  rintro e w' ⟨rfl, rfl⟩
  by_cases h3 : ((tr.length : Nat) : Int) = ((gr.length : Nat) : Int) - 1
  case neg =>
    have h7 : (((tr.length : Nat) : Int) != ((gr.length : Nat) : Int) - 1) = true := by simpa using h3
    go_wp2_with fail
    go_ret
    exact ⟨by simp [validT, h1, h2, h3], hbox⟩
  have h7 : (((tr.length : Nat) : Int) != ((gr.length : Nat) : Int) - 1) = false := by simpa using h3
  have H3 := Lib.hid h3
  clear h3
  go_wp2_with fail
  refine (allWithin_any _ _ _ _ _ _ hg (by omega)).mono ?_
  cases h4 : allB gr 0 cy
  · rintro e w' ⟨rfl, rfl⟩
    go_wp2_with fail
    go_ret
    exact ⟨by simp [validT, h1, h2, H3.out, h4], hbox⟩
  rintro e w' ⟨rfl, rfl⟩
  go_wp2_with fail
  refine (allWithin_any _ _ _ _ _ _ ht (by omega)).mono ?_
  rintro e w' ⟨rfl, rfl⟩
  have H := Lib.hid (show allB tr 0 60 = validT ⟨cy, gr, tr⟩ by simp [validT, h1, h2, H3.out, h4])
  go_wp2_with fail
  go_ret
  exact ⟨ret_bool H.out, hbox⟩

set_option maxHeartbeats 1600000 in
theorem sValidO_any (s : St) (os : List Int) (G T O : Option Addr) (c d f : Nat) (w : World) (hs : RdS w s G T) (ho : RdL fI w O os) (no : os.length ≤ 2000000) :
    Calls Try.prog 39 #[strV s G T c d, .slice O os.length f] w fun e w' => e = .returned (.bool (validO s os)) ∧ Below w.heap.size w w' := by
  have bx := Blk.new w 27 (strC s G T c d)
  replace hs := hs.alloc (.cells (strC s G T c d) 27)
  replace ho := ho.alloc (.cells (strC s G T c d) 27)
  have hB := (Below.refl w.heap.size w).alloc (Nat.le_refl _) (.cells (strC s G T c d) 27)
  go_enter Try.func39, Try.ntmps39
  go_wp2_with fail
  refine (sValidT_any s G T c d _ hs).mono ?_
  rintro e w1 ⟨rfl, v0⟩
  replace bx := bx.below v0 bx.lt
  replace ho := ho.below v0
  replace hB := hB.trans (v0.mono (by simp))
  obtain ⟨k0, k1, k2⟩ := loadS bx
  clear v0 hs bx
  cases hv : validT s with
  | false =>
    have H := Lib.hid (show validO s os = false by simp [validO, hv])
    clear hv
    go_wp2_with fail
    go_ret
    exact ⟨ret_bool H.out.symm, hB⟩
  | true =>
    have hc1 := (validT_iff.mp hv).c1
    have hc2 := (validT_iff.mp hv).c2
    by_cases h3 : os.length = s.gr.length
    case neg =>
      have H := Lib.hid (show validO s os = false by simp [validO, hv, h3])
      have h7 : (((os.length : Nat) : Int) == ((s.gr.length : Nat) : Int)) = false := by simp; omega
      clear hv h3
      go_wp2_with fail
      go_ret
      exact ⟨ret_bool H.out.symm, hB⟩
    have H := Lib.hid (show allB os 0 (s.cy - 1) = validO s os by simp [validO, hv, h3])
    have h7 : (((os.length : Nat) : Int) == ((s.gr.length : Nat) : Int)) = true := by simp [h3]
    clear hv h3
    go_wp2_with fail
    refine (allIn_any _ _ _ _ _ _ ho (by omega)).mono ?_
    rintro e w' ⟨rfl, rfl⟩
    go_wp2_with fail
    go_ret
    exact ⟨ret_bool H.out, hB⟩

set_option maxHeartbeats 1600000 in
theorem iValidO_any (s : St) (os : List Int) (G T O : Option Addr) (c d f : Nat) (w : World) (hs : RdS w s G T) (ho : RdL fI w O os) (no : os.length ≤ 2000000) :
    Calls Try.prog 42 #[strV s G T c d, .slice O os.length f] w fun e w' => e = .returned (.bool (validO s os)) ∧ Below w.heap.size w w' := by
  have bx := Blk.new w 27 (strC s G T c d)
  replace hs := hs.alloc (.cells (strC s G T c d) 27)
  replace ho := ho.alloc (.cells (strC s G T c d) 27)
  have hB := (Below.refl w.heap.size w).alloc (Nat.le_refl _) (.cells (strC s G T c d) 27)
  go_enter Try.func42, Try.ntmps42
  go_wp2_with fail
  refine (iValidT_any s G T c d _ hs).mono ?_
  rintro e w1 ⟨rfl, v0⟩
  replace bx := bx.below v0 bx.lt
  replace ho := ho.below v0
  replace hB := hB.trans (v0.mono (by simp))
  obtain ⟨k0, k1, k2⟩ := loadS bx
  clear v0 hs bx
  cases hv : validT s with
  | false =>
    have H := Lib.hid (show validO s os = false by simp [validO, hv])
    clear hv
    go_wp2_with fail
    go_ret
    exact ⟨ret_bool H.out.symm, hB⟩
  | true =>
    have hc1 := (validT_iff.mp hv).c1
    have hc2 := (validT_iff.mp hv).c2
    by_cases h3 : os.length = s.gr.length
    case neg =>
      have H := Lib.hid (show validO s os = false by simp [validO, hv, h3])
      have h7 : (((os.length : Nat) : Int) == ((s.gr.length : Nat) : Int)) = false := by simp; omega
      clear hv h3
      go_wp2_with fail
      go_ret
      exact ⟨ret_bool H.out.symm, hB⟩
    have H := Lib.hid (show allB os 0 (s.cy - 1) = validO s os by simp [validO, hv, h3])
    have h7 : (((os.length : Nat) : Int) == ((s.gr.length : Nat) : Int)) = true := by simp [h3]
    clear hv h3
    go_wp2_with fail
    refine (allWithin_any _ _ _ _ _ _ ho (by omega)).mono ?_
    rintro e w' ⟨rfl, rfl⟩
    go_wp2_with fail
    go_ret
    exact ⟨ret_bool H.out, hB⟩

/-- The second at which a car is at crossing i, before the way to it. -/
theorem goT_pred (s : St) (k : Nat) (hk : k < s.tr.length) : goT s (k + 1 - 1) + ga s.tr k = goT s (k + 1) := by
  rw [Nat.add_sub_cancel, goT_succ s k hk]

set_option maxHeartbeats 3200000 in
theorem iPass_any (s : St) (os : List Int) (G T O : Option Addr) (c d f : Nat) (t : Int) (w : World) (hs : RdS w s G T) (ho : RdL fI w O os) (hv : GoodO s os) (ht0 : 0 ≤ t) (ht1 : t ≤ 20000) :
    Calls Try.prog 44 #[strV s G T c d, .slice O os.length f, .int .i64 t] w fun e w' => e = .returned (.bool (passF s os t)) ∧ Below w.heap.size w w' := by
  have bx := Blk.new w 27 (strC s G T c d)
  obtain ⟨hg, ht, -, -⟩ := hs.alloc (.cells (strC s G T c d) 27)
  replace ho := ho.alloc (.cells (strC s G T c d) 27)
  have hB := (Below.refl w.heap.size w).alloc (Nat.le_refl _) (.cells (strC s G T c d) 27)
  clear hs
  go_enter Try.func44, Try.ntmps44
  go_wp2_with fail
  generalize w.alloc (.cells (strC s G T c d) 27) = w1 at *
  obtain ⟨gb, hgb⟩ : ∃ gb, gb = w.heap.size := ⟨_, rfl⟩
  rw [← hgb] at bx
  simp only [← hgb]
  clear hgb
  have hgr4 := hv.g.g2
  have htl := hv.g.tl
  have hol := hv.ol
  have Htl := Lib.hid htl
  have Hol := Lib.hid hol
  have Hv := Lib.hid hv
  clear htl hol hv
  go_loopw [2, 12] (fun vt vi wr => ∃ k : Nat, k ≤ s.gr.length ∧ vi = .int .i64 k ∧ vt = .int .i64 (t + goT s (k - 1)) ∧ passN s os t k = true ∧ ∃ m, wr = w1.drewN m) (fun _ vi _ => s.gr.length - (intOf vi).toNat)
  case atStart => exact ⟨0, Nat.zero_le _, rfl, by simp [goT_zero], by simp [passN], 0, rfl⟩
  case round =>
    obtain ⟨k, hk, rfl, rfl, hp, m, rfl⟩ := hrel
    by_cases hlt : k < s.gr.length
    case neg =>
      obtain rfl : k = s.gr.length := by omega
      have H := Lib.hid (show true = passF s os t from hp.symm)
      go_wp2_with fail
      go_ret
      exact ⟨ret_bool H.out, below_drewN hB _⟩
    have hko : k < os.length := by have := Hol.out; omega
    have hbd := goT_bd Hv.out.g k (by have := Htl.out; omega)
    obtain ⟨b1, o1, rfl, hcg⟩ := hg.at hlt
    obtain ⟨b2, o2, rfl, hco⟩ := ho.at hko
    rw [ga_at hlt] at hcg
    rw [ga_at hko] at hco
    have hob := Hv.out.ob k hko
    have hgb := Hv.out.g.gb k hlt
    have hc1 := Hv.out.g.c1
    have hc2 := Hv.out.g.c2
    obtain ⟨q0, q1, q2⟩ := loadS bx
    have hok : Hid (okAt s os t k = decide ((t + goT s k + s.cy - ga os k) % s.cy < ga s.gr k)) := Lib.hid rfl
    have hsucc := Lib.hid (passN_succ s os t k)
    have hno : Hid (okAt s os t k = false → passF s os t = false) := Lib.hid (passF_not hlt)
    have Hp := Lib.hid hp
    clear hp
    obtain ⟨v, hV⟩ : ∃ v, v = t + goT s k := ⟨_, rfl⟩
    have hvb : 0 ≤ v ∧ v ≤ 20300 := by omega
    rw [← hV] at hok
    have HV := Lib.hid hV
    generalize ga os k = o at *
    generalize ga s.gr k = g at *
    simp only [fI] at hcg hco
    have hx0 : 0 ≤ v + s.cy - o := by omega
    have hfin : ∀ (K : Prop), ((v + s.cy - o) % s.cy < g → K) → (¬ (v + s.cy - o) % s.cy < g → K) → K := fun K h1 h2 => (Decidable.em _).elim h1 h2
    by_cases hk0 : k = 0
    · subst hk0
      have hv0 : v = t := by rw [hV, goT_zero]; omega
      subst hv0
      simp only [Nat.add_zero] at hcg hco
      clear hV hfin
      by_cases hx : (v + s.cy - o) % s.cy < g
      · have d1 : decide ((v + s.cy - o) % s.cy ≥ g) = false := decide_eq_false (by omega)
        have d1' : ¬ g ≤ (v + s.cy - o) % s.cy := by omega
        have HX := Lib.hid hx
        clear hx
        rw [goT_zero]
        go_wp2_with fail
        go_quiet (fail)
        go_wp2_with fail
        go_roundw
        case rel => exact ⟨1, by omega, by go_num, by simp [goT_zero], by rw [hsucc.out, Hp.out, hok.out, decide_eq_true HX.out]; rfl, _, rfl⟩
        case measure => simp [intOf]; omega
      · have d1 : decide ((v + s.cy - o) % s.cy ≥ g) = true := decide_eq_true (by omega)
        have d1' : g ≤ (v + s.cy - o) % s.cy := by omega
        have HX := Lib.hid hx
        clear hx
        rw [goT_zero]
        go_wp2_with fail
        go_quiet (fail)
        go_wp2_with fail
        go_ret
        exact ⟨ret_bool (hno.out (by rw [hok.out, decide_eq_false (by have := HX.out; omega)])).symm, below_drewN (below_drewN hB _) _⟩
    · obtain ⟨j, rfl⟩ : ∃ j, k = j + 1 := ⟨k - 1, by omega⟩
      have hjt : j < s.tr.length := by have := Htl.out; omega
      obtain ⟨b3, o3, rfl, hct⟩ := ht.at hjt
      rw [ga_at hjt] at hct
      have hgp := goT_pred s j hjt
      have htb := Hv.out.g.tb j hjt
      have hbd2 := goT_bd Hv.out.g j (by omega)
      simp only [Nat.add_sub_cancel] at hgp ⊢
      generalize ga s.tr j = r at *
      obtain ⟨u, hu⟩ : ∃ u, u = t + goT s j := ⟨_, rfl⟩
      have hub : 0 ≤ u ∧ u ≤ 20300 := by omega
      have huv : u + r = v := by omega
      rw [← hu]
      have HU := Lib.hid hu
      clear hu hV hfin hgp
      obtain ⟨j1, hj1⟩ : ∃ j1, j1 = j + 1 := ⟨_, rfl⟩
      simp only [fI] at hct
      have HUV := Lib.hid huv
      clear huv
      clear hj1 j1
      by_cases hx : (u + r + s.cy - o) % s.cy < g
      · have d1 : decide ((u + r + s.cy - o) % s.cy ≥ g) = false := decide_eq_false (by omega)
        have d1' : ¬ g ≤ (u + r + s.cy - o) % s.cy := by omega
        have HX := Lib.hid hx
        clear hx
        have hw1 : 0 ≤ u + r ∧ u + r ≤ 20400 := by omega
        go_wp2_with fail
        go_quiet (fail)
        go_wp2_with fail
        go_roundw
        case rel => exact ⟨j + 2, by omega, by go_num, by show _ = Value.int .i64 (t + goT s (j + 1)); rw [← HV.out, HUV.out], by rw [hsucc.out, Hp.out, hok.out, ← HUV.out, decide_eq_true HX.out]; rfl, _, rfl⟩
        case measure => simp [intOf]; omega
      · have d1 : decide ((u + r + s.cy - o) % s.cy ≥ g) = true := decide_eq_true (by omega)
        have d1' : g ≤ (u + r + s.cy - o) % s.cy := by omega
        have HX := Lib.hid hx
        clear hx
        have hw1 : 0 ≤ u + r ∧ u + r ≤ 20400 := by omega
        go_wp2_with fail
        go_quiet (fail)
        go_wp2_with fail
        go_ret
        exact ⟨ret_bool (hno.out (by rw [hok.out, ← HUV.out, decide_eq_false (by have := HX.out; omega)])).symm, below_drewN (below_drewN hB _) _⟩
end Go.Proofs.Ytmnapeefclkldaa
