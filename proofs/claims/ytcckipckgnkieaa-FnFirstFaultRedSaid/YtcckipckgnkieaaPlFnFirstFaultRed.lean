/-
  The statement FnFirstFaultRed: less green, no earlier fault.
-/
import Derived.Test.YtcckipckgnkieaaPlLaw
import Derived.Test.YtcckipckgnkieaaOpen
namespace Go.Proofs.Ytcckipckgnkieaa.FnFirstFaultRed
open Go.RowKit Go.ChangeShapes Go.WideShapes Go.ChangeAt Go.Proofs.Ytcckipckgnkieaa
set_option linter.unusedVariables false

set_option maxRecDepth 100000 in
set_option maxHeartbeats 3200000 in
theorem walk (A : Option Addr) (len cap : Nat) (w : World) (h : Bytes w A len) (hc : len ≤ cap) :
    Calls Try.prog 9 #[.slice A len cap] w fun e w' => e = .returned (.bool true) ∧ Below w.heap.size w w' := by
  obtain ⟨i0, hi0, hz0, hz1, hz2⟩ := info_parts info_S1I
  by_cases hl1 : 1048576 < len
  · go_enter Try.func9, Try.ntmps9
    go_wp2_with fail
    go_ret
    exact ⟨rfl, Below.refl _ _⟩
  go_enter Try.func9, Try.ntmps9
  go_wp2_with fail
  refine (drawFF_any _ A len cap h hc).mono ?_
  rintro e w1 ⟨t, T, c, g, C, d, rfl, hr, hh, hsm, hsh, hcd, hB⟩
  obtain ⟨n, hn⟩ : ∃ n, n = faultF t g := ⟨_, rfl⟩
  have Hn := Lib.hid hn
  have hbd := faultF_bd (t := t) (h := g)
  rw [← hn] at hbd
  have hn1 := hsm.1
  have hn2 := hsh.1
  have Hl := Lib.hid (fun k (hk : k < t.length) => show (gm t k).length ≤ 1000000000 by have := hsm.2 k hk; omega)
  have Hl2 := Lib.hid (fun k (hk : k < g.length) => show (gm g k).length ≤ 1000000000 by have := hsh.2 k hk; omega)
  clear hn h hsm hsh
  go_wp2_with fail
  refine (iFault_v t g n Hn T C c d _ hr hh (by omega) Hl.out (by omega) Hl2.out).mono ?_
  rintro e w2 ⟨rfl, v2⟩
  replace hr := hr.below v2
  replace hh := hh.below v2
  replace hB := hB.trans (v2.mono hB.size)
  clear v2
  go_wp2_with fail
  refine (sFault_v t g n Hn T C c d _ hr hh (by omega) Hl.out (by omega) Hl2.out).mono ?_
  rintro e w3 ⟨rfl, v3⟩
  replace hr := hr.below v3
  replace hh := hh.below v3
  replace hB := hB.trans (v3.mono hB.size)
  clear v3
  by_cases h2 : n = -2 ∨ g.length = 0
  · have hdone : ∀ w', Below w.heap.size w w' → (n == -2) = true ∨ (n == -2) = false ∧ (((g.length : Nat) : Int) == 0) = true := fun _ _ => by
      by_cases e : n = -2
      · left; simp [e]
      · right; exact ⟨beq_eq_false_iff_ne.mpr e, by have : g.length = 0 := by omega
                                                    simp [this]⟩
    rcases hdone w3 hB with hb | ⟨hb, hb2⟩
    all_goals
      clear hdone h2
      go_wp2_with fail
      refine (sFault_v t g n Hn T C c d _ hr hh (by omega) Hl.out (by omega) Hl2.out).mono ?_
      rintro e w4 ⟨rfl, v4⟩
      replace hB := hB.trans (v4.mono hB.size)
      clear v4
      go_wp2_with fail
      go_ret
      exact ⟨rfl, hB⟩
  have hgl : 0 < g.length := by omega
  have Hg := Lib.hid (faultF_good (t := t) (h := g) (by rw [← Hn.out]; omega))
  have hb1 : (n == -2) = false := beq_eq_false_iff_ne.mpr (by omega)
  have hb2 : (((g.length : Nat) : Int) == 0) = false := beq_eq_false_iff_ne.mpr (by omega)
  clear h2
  obtain ⟨ps, hps, hpl, hrow⟩ := hh
  have Hpl := Lib.hid hpl
  have Hrow := Lib.hid hrow
  have hz := hB.size
  have hp8 : ps.length ≤ 150 := by omega
  have V1 := ((Below.refl w3.heap.size w3).alloc (Nat.le_refl _) (.cells #[] 32)).alloc (by simp) (.cells #[] 32)
  have hR0 := ((OwnL.of_cap (lo := w3.heap.size) fS (Blk.new w3 32 #[]) (Nat.le_refl _) rfl (by simp [maxLen]))).alloc (.cells #[] 32)
  have hs1 : (w3.alloc (.cells #[] 32)).heap.size = w3.heap.size + 1 := by simp
  have hL0 := OwnL.of_cap (lo := w3.heap.size + 1) fS (Blk.new (w3.alloc (.cells #[] 32)) 32 #[]) (by rw [hs1]; omega) rfl (by simp [maxLen])
  rw [hs1] at hL0
  have hs2 : ((w3.alloc (.cells #[] 32)).alloc (.cells #[] 32)).heap.size = w3.heap.size + 2 := by simp
  have hps2 := hps.below V1
  clear hpl hrow hs1 hps
  go_wp2_with (at_builtin; go_must (refine wpList_appendL rfl (.tmp 41) (.tmp 42) 23 rfl i0 _ 24 Try.underlying23 hi0 hz0 hz1 hz2 rfl rfl hL0 C ps d (by rw [Hpl.out]; rfl) hps2 (fun _ => rfl) (by simp; omega) (by omega) (by rw [hs2]; omega) ?_); intro L lc w4 hL hgL hbL; (try simp only [List.nil_append]); (try rw [Hpl.out]))
  simp only [List.nil_append] at hL
  have V4 := V1.grown hgL (by rw [hs2]; omega) (fun b e => by simp at e; omega)
  have hR4 := hR0.o.grown hgL (.inr fun e => by simp at e)
  have hL4 := hL.o
  obtain ⟨gL, oL, rfl, -, -, hgl1, hgl2⟩ := hL4.at (k := 0) (by have := Hpl.out; omega)
  have hz4 := V4.size
  clear hL hgL hbL hs2 hps2 hR0 hL0 V1
  go_loopw [6, 8] (fun v6 vi wr => ∃ k : Nat, k ≤ g.length ∧ vi = .int .i64 k ∧ (∃ D d2 qs, v6 = .slice D (qs : List (Option Addr × Nat × Nat)).length d2 ∧ qs.length = k ∧ (∀ j (hj : j < qs.length), (qs[j]'hj).2.1 = 0) ∧ OwnO fS wr w3.heap.size 32 D d2 qs ∧ ∀ b, blk D = some b → b ≠ gL) ∧ OwnO fS wr (w3.heap.size + 1) 32 (some ⟨gL, oL, none⟩) lc ps ∧ Below w3.heap.size w3 wr) (fun _ vi _ => g.length - (intOf vi).toNat)
  case atStart => exact ⟨0, Nat.zero_le _, rfl, ⟨_, _, [], rfl, rfl, fun j hj => by simp at hj, hR4, fun b hb => by simp at hb; omega⟩, hL4, V4⟩
  case round =>
    clear hR4 hL4 V4
    obtain ⟨k, hk, rfl, ⟨D, d2, qs, rfl, hql, hq0, hR, hRL⟩, hL, V⟩ := hrel
    have Hql := Lib.hid hql
    have Hq0 := Lib.hid hq0
    have hq8 : qs.length ≤ 150 := by omega
    have hzr := V.size
    have hRl := hR.lt
    have hLl := (hL.lt gL rfl).2
    clear hql hq0
    by_cases hlt : k < g.length
    · have hs5 : (wr.alloc (.cells #[] 3)).heap.size = wr.heap.size + 1 := by simp
      have hc5 : ((wr.alloc (.cells #[] 3)).alloc (.cells #[.slice (some ⟨wr.heap.size, 0, none⟩) 0 0] 32)).cell? ⟨wr.heap.size + 1, 0, none⟩ = some (.slice (some ⟨wr.heap.size, 0, none⟩) 0 0) := by
        have := cell_new (wr.alloc (.cells #[] 3)) (.slice (some ⟨wr.heap.size, 0, none⟩) 0 0) 32
        rwa [hs5] at this
      go_wp2_with (at_builtin; go_must (refine wpList_pushO rfl (.tmp 50) (.tmp 52) 23 rfl i0 _ 24 Try.underlying23 hi0 hz0 hz1 hz2 rfl rfl ((hR.alloc (.cells #[] 3)).alloc (.cells #[.slice (some ⟨wr.heap.size, 0, none⟩) 0 0] 32)) (wr.heap.size + 1) ((some ⟨wr.heap.size, 0, none⟩ : Option Addr), 0, 0) rfl hc5 rfl (by omega) (by omega) (by simp; omega) ?_); intro D3 d3 w6 hO6 hg6 hb6)
      have hL6 := ((hL.alloc (.cells #[] 3)).alloc (.cells #[.slice (some ⟨wr.heap.size, 0, none⟩) 0 0] 32)).grown hg6 (.inr fun e => hRL gL e.symm rfl)
      have V5 := V.alloc hzr (.cells #[] 3)
      have V6 := below_push (by rw [hs5]; omega) V5 (fun b hb => ⟨(hRl b hb).1, by rw [hs5]; have := (hRl b hb).2; omega⟩) hg6
      go_roundw
      case rel => exact ⟨k + 1, by omega, by go_num, ⟨D3, d3, qs ++ [(some ⟨wr.heap.size, 0, none⟩, 0, 0)], by simp, by simp [Hql.out], fun j hj => by
          by_cases e : j < qs.length
          · rw [List.getElem_append_left e]; exact Hq0.out j e
          · rw [List.getElem_append_right (by omega)]; simp, hO6, fun b hb => by
          rcases hb6 with h | h
          · exact hRL b (by rw [← h]; exact hb)
          · have := h b hb
            simp at this
            omega⟩, hL6, V6⟩
      case measure => simp [intOf]; omega
    · obtain rfl : k = g.length := by omega
      obtain ⟨i, hi⟩ : ∃ i, i = len % g.length := ⟨_, rfl⟩
      have hig : i < g.length := by rw [hi]; exact Nat.mod_lt _ hgl
      have htm : ((len : Nat) : Int).tmod ((g.length : Nat) : Int) = (i : Int) := by rw [hi]; exact (Int.ofNat_tmod len g.length).symm
      have hgn : ¬ ((g.length : Nat) : Int) = 0 := by omega
      have hig2 : (i : Int) < (g.length : Int) := by omega
      obtain ⟨g', o', e', hci, hfi, -, -⟩ := hL.at (k := i) (by rw [Hpl.out]; exact hig)
      obtain ⟨rfl, rfl⟩ : gL = g' ∧ oL = o' := by simpa using e'
      have hL7 := (hL.set (k := i) (x := (some ⟨wr.heap.size, 0, none⟩, 0, 0)) (by rw [Hpl.out]; exact hig)).alloc (.cells #[] 3)
      have hR7 := (hR.grown (only_set (w := wr) (g := gL) (k := oL + i) (fS (some ⟨wr.heap.size, 0, none⟩, 0, 0))) (by
        cases hD : blk D with
        | none => exact .inl rfl
        | some b => exact .inr fun e => hRL b hD (by injection e))).alloc (.cells #[] 3)
      have V7 := (V.setCell (p := ⟨gL, oL + i, none⟩) (by simp; omega) (fS (some ⟨wr.heap.size, 0, none⟩, 0, 0))).alloc (by simp; omega) (.cells #[] 3)
      simp only [fS] at hL7 hR7 V7
      obtain ⟨w7, hw7⟩ : ∃ w7, w7 = (wr.setCell ⟨gL, oL + i, none⟩ (.slice (some ⟨wr.heap.size, 0, none⟩) 0 0)).alloc (.cells #[] 3) := ⟨_, rfl⟩
      rw [← hw7] at hL7 hR7 V7
      have hless : RdSS fI w7 (some ⟨gL, oL, none⟩) (g.set i []) := ⟨ps.set i (some ⟨wr.heap.size, 0, none⟩, 0, 0), hL7.rd, by simp [Hpl.out], fun k hk hk' => by
        simp only [List.length_set] at hk hk'
        rw [List.getElem_set, List.getElem_set]
        by_cases e : i = k
        · rw [if_pos e, if_pos e]; exact ⟨rfl, .inl rfl⟩
        · rw [if_neg e, if_neg e]
          obtain ⟨h1, h2⟩ := Hrow.out k hk (by rw [Hpl.out]; exact hk)
          exact ⟨h1, h2.below V7⟩⟩
      have hred : RdSS fI w7 D (List.replicate g.length []) := ⟨qs, hR7.rd, by simp [Hql.out], fun k hk hk' => by
        rw [List.getElem_replicate]
        exact ⟨Hq0.out k hk', .inl rfl⟩⟩
      obtain ⟨m, hm⟩ : ∃ m, m = faultF t (g.set i []) := ⟨_, rfl⟩
      have hfl := fault_less Hg.out hig
      rw [← Hn.out, ← hm] at hfl
      have Hm := Lib.hid hm
      have Hred := Lib.hid (fault_red Hg.out).symm
      have c1 := iFault_v t (g.set i []) m Hm T (some ⟨gL, oL, none⟩) c lc w7 (hr.below V7) hless (by omega) Hl.out (by rw [List.length_set]; omega) (fun k hk => by
        rw [List.length_set] at hk
        rw [gm_set hig]
        split
        · simp
        · exact Hl2.out k hk)
      rw [List.length_set] at c1
      have c2 := fun w8 (hb : Below w7.heap.size w7 w8) => iFault_v t (List.replicate g.length []) (-1) Hred T D c d2 w8 ((hr.below V7).below hb) (hred.below hb) (by omega) Hl.out (by rw [List.length_replicate]; omega) (fun k hk => by
        rw [List.length_replicate] at hk
        rw [gm_rep hk]
        simp)
      rw [List.length_replicate] at c2
      rw [Hql.out]
      clear hm hi hR hL hL7 hR7 hless hred e' hr hRl
      go_wp2_with fail
      rw [← hw7]
      refine c1.mono ?_
      rintro e w8 ⟨rfl, v8⟩
      have V8 := V7.trans (v8.mono V7.size)
      have c3 := c2 w8 v8
      clear c1 c2 v8 V7 hw7 hci hfi
      go_wp2_with fail
      refine c3.mono ?_
      rintro e w9 ⟨rfl, v9⟩
      have V9 := V8.trans (v9.mono V8.size)
      have hfin := hB.trans (V9.mono hz)
      clear c3 v9 V8 V9 V hB
      by_cases hm1 : m = -1
      · have hb3 : (m == -1) = true := by simp [hm1]
        clear hfl hm1
        go_wp2_with fail
        go_ret
        exact ⟨rfl, hfin⟩
      · have hb3 : (m == -1) = false := beq_eq_false_iff_ne.mpr hm1
        obtain ⟨hn0, hnm⟩ : 0 ≤ n ∧ n ≤ m := by omega
        clear hfl hm1
        go_wp2_with fail
        go_ret
        exact ⟨rfl, hfin⟩

set_option maxRecDepth 100000 in
theorem lifted (os : Os) (started : os.Started) (H : Type) (enc : TypeId × Value → H) :
    ReturnsInHanded {} Try.checked os 9 .any (Rows.fnFirstFaultRedSpec.pre6 enc Try.prog Try.f9 Rows.fnFirstFaultRedRow.domain false) (Rows.fnFirstFaultRedSpec.post enc Try.prog Try.f9 false true false false) := by
  refine returnsInHanded_of_change (C := Try.checked) own started (by kernel_rfl) Try.func9
    (ChangeSpec.witness6 (enc := enc) (C := Try.checked) false ⟨#[], #[.slice none 0 0], []⟩ 8 (by kernel_rfl) (by kernel_rfl) (by kernel_rfl) (by kernel_rfl)) ?_
  intro W base args ds gs before hval0 hW hcnd _
  have hval : ∀ (j : Nat) t v, Try.f9.params[j]? = some t → args[j]? = some v → Value.okWide Try.prog W .any base t v := hval0
  have hW' := hW
  obtain ⟨p, q, hA0, hV, rfl, hfz, hnd⟩ := hW
  have hA : DataW.TrodAll enc Try.prog W 0 (fun _ => true) true Try.f9.params.toList args.toList ds p := hA0
  rw [Try.params9] at hA hval
  obtain ⟨v0, vs0, d0, ds0, p0, q0, hargs, rfl, rfl, h0, r0⟩ := trodAll_cons hA
  obtain ⟨rfl, rfl, rfl⟩ := trodAll_nil r0
  obtain rfl : args = #[v0] := by cases args; simp_all
  obtain ⟨rfl, rfl⟩ := trodVars_none hV
  have k0 := h0
  have lt0 : ∀ x ∈ p0, x.block < W.heap.size := by obtain ⟨m, hm⟩ := k0; exact DataW.trod_lt m _ _ _ hm
  obtain ⟨a0, len0, cap0, rfl⟩ := okWide_slice Try.underlying22 (hval 0 22 v0 rfl rfl)
  obtain ⟨w0, hc0⟩ := open_bytes Try.underlying22 Try.underlying5 (by kernel_rfl) h0
  clear hA0 hval0
  refine (walk a0 len0 cap0 W w0 hc0).mono fun e W' ⟨he, bel⟩ => ?_
  subst he
  exact ⟨_, rfl, _, _, _, [], _, [], hW', trodAll_mk1 (shut_bool Try.underlying4 _), (trodAll_cons_mk (Below.trod laidOut (by kernel_rfl) (of_decide_eq_true (by kernel_rfl)) k0 bel lt0) trodAll_mk0), rfl, bel.frame _, fun h => by cases h⟩

theorem over : Rows.fnFirstFaultRedRow.holds Try.pinned (OpenSpec.ofChange Rows.fnFirstFaultRedSpec) :=
  OpenClaim.holds_of_wide 9 Try.f9 rfl rfl rfl rfl rfl rfl rfl ⟨rfl, rfl, rfl, rfl, rfl⟩ rfl rfl rfl rfl rfl (by kernel_rfl) Try.func9 (by kernel_rfl)
    (of_decide_eq_true (by kernel_rfl)) (by unfold Func.isWrapper; first | (rw [if_pos (by decide +kernel)]; kernel_rfl) | (rw [if_neg (by decide +kernel)]; exact ⟨rfl, rfl⟩))
    (fun os started H enc _ => lifted os started H enc)

theorem proved : Rows.FnFirstFaultRedSaid := over
end Go.Proofs.Ytcckipckgnkieaa.FnFirstFaultRed
