/-
  DepartureTimes, WaitTimes, TotalDelay.
-/
import Derived.Test.YtlafbfphegmbaaaCars
import Derived.Test.YtlafbfphegmbaaaReg
namespace Go.Proofs.Ytlafbfphegmbaaa
open Go.RowKit
set_option linter.unusedVariables false

theorem carTimes_no (ar : List Int) (gr : List Bool) (A B : Option Addr) (c d : Nat) (w : World) (ha : RdL fI w A ar) (hn : ar.length ≤ 2000000) (hm : gr.length ≤ 2000000) (hv : validQ ar gr = false) :
    Calls Try.prog 40 #[.slice A ar.length c, .slice B gr.length d] w (CarPost w [] []) := by
  go_enter Try.func40, Try.ntmps40
  go_wp2_with fail
  refine (iValidQ_any ar gr A B c d _ ha hn hm).mono ?_
  rw [hv]
  rintro e w1 ⟨rfl, rfl⟩
  go_wp2_with fail
  go_ret2
  exact ⟨none, none, 0, 0, rfl, OwnO.nil _ _ _ _, OwnO.nil _ _ _ _, Sep.none, Below.refl _ _⟩

def goneF (ar : List Int) (gr : List Bool) : List Int := if validQ ar gr then goneAt ar gr ar.length else []
theorem carTimes_any (ar : List Int) (gr : List Bool) (A B : Option Addr) (c d : Nat) (w : World) (ha : RdL fI w A ar) (hb : RdL fB w B gr) (hn : ar.length ≤ 2000000) (hm : gr.length ≤ 2000000) :
    Calls Try.prog 40 #[.slice A ar.length c, .slice B gr.length d] w (CarPost w (goneF ar gr) (departF ar gr)) := by
  by_cases hv : validQ ar gr = true
  · have := carTimes_yes ar gr A B c d w ha hb hv
    rwa [show goneAt ar gr ar.length = goneF ar gr by simp [goneF, hv], show departTo ar gr ar.length = departF ar gr by simp [departF, hv]] at this
  · have hv : validQ ar gr = false := by simpa using hv
    rw [show goneF ar gr = [] by simp [goneF, hv], show departF ar gr = [] by simp [departF, hv]]
    exact carTimes_no ar gr A B c d w ha hn hm hv

theorem iDepart_any (ar : List Int) (gr : List Bool) (A B : Option Addr) (c d : Nat) (w : World) (ha : RdL fI w A ar) (hb : RdL fB w B gr) (hn : ar.length ≤ 2000000) (hm : gr.length ≤ 2000000) :
    Calls Try.prog 25 #[.slice A ar.length c, .slice B gr.length d] w (NewS fI 3 w (departF ar gr)) := by
  go_enter Try.func25, Try.ntmps25
  go_wp2_with fail
  refine (carTimes_any ar gr A B c d _ ha hb hn hm).mono ?_
  rintro e w1 ⟨A7, A8, c7, c8, rfl, h7, h8, hs, hbel⟩
  go_wp2_with fail
  go_ret
  exact ⟨A8, c8, rfl, h8, hbel⟩

theorem waitsF_get (ar : List Int) (gr : List Bool) (i : Nat) (h1 : i < (waitsF ar gr).length) (h2 : i < (departF ar gr).length) (h3 : i < (goneF ar gr).length) :
    (waitsF ar gr)[i] = (departF ar gr)[i] - (goneF ar gr)[i] := by
  by_cases hv : validQ ar gr = true
  · simp only [waitsF, departF, goneF, hv, if_true]
    exact waits_get ar gr ar.length i (by simpa [waitsF, hv] using h1) (by simpa [departF, hv] using h2) (by simpa [goneF, hv] using h3)
  · simp [departF, hv] at h2
theorem lens (ar : List Int) (gr : List Bool) : (goneF ar gr).length = (departF ar gr).length ∧ (waitsF ar gr).length = (departF ar gr).length ∧ (departF ar gr).length ≤ 150 := by
  by_cases hv : validQ ar gr = true
  · have hf := validQ_few hv
    have := validQ_len hv
    have := departTo_length ar gr ar.length
    simp only [waitsF, departF, goneF, hv, if_true]
    exact ⟨goneAt_length ar gr hf _, waits_length ar gr hf _, by omega⟩
  · simp [waitsF, departF, goneF, hv]
theorem departF_bd (ar : List Int) (gr : List Bool) : ∀ z ∈ departF ar gr, 0 ≤ z ∧ z < 150 := by
  intro z hz
  by_cases hv : validQ ar gr = true
  · simp only [departF, hv, if_true] at hz
    have := departTo_bd ar gr _ z hz
    have := validQ_len hv
    omega
  · simp [departF, hv] at hz
theorem goneF_bd (ar : List Int) (gr : List Bool) : ∀ z ∈ goneF ar gr, 0 ≤ z ∧ z < 150 := by
  intro z hz
  by_cases hv : validQ ar gr = true
  · simp only [goneF, hv, if_true] at hz
    have := goneAt_bd ar gr _ z hz
    have := validQ_len hv
    omega
  · simp [goneF, hv] at hz

set_option maxHeartbeats 800000 in
theorem iWaits_any (ar : List Int) (gr : List Bool) (A B : Option Addr) (c d : Nat) (w : World) (ha : RdL fI w A ar) (hb : RdL fB w B gr) (hn : ar.length ≤ 2000000) (hm : gr.length ≤ 2000000) :
    Calls Try.prog 29 #[.slice A ar.length c, .slice B gr.length d] w (NewS fI 3 w (waitsF ar gr)) := by
  go_enter Try.func29, Try.ntmps29
  go_wp2_with fail
  refine (carTimes_any ar gr A B c d _ ha hb hn hm).mono ?_
  rintro e w1 ⟨A7, A8, c7, c8, rfl, h7, h8, hs, hbel⟩
  obtain ⟨hl1, hl2, hl3⟩ := lens ar gr
  have hd := departF_bd ar gr
  have hg := goneF_bd ar gr
  have hget := waitsF_get ar gr
  clear ha hb
  generalize departF ar gr = D at *
  generalize goneF ar gr = G at *
  generalize waitsF ar gr = W at *
  have Hl2 := Lib.hid hl2
  have hl1a : G.length ≤ D.length := by omega
  have hl1b : D.length ≤ G.length := by omega
  have Hl1 := Lib.hid hl1
  have Hget := Lib.hid hget
  clear hl1 hl2 hget
  go_wp2_with fail
  go_loopw [17] (fun i wr => ∃ k : Nat, k ≤ D.length ∧ i = .int .i64 k ∧ OwnO fI wr w.heap.size 3 A7 c7 (W.take k ++ G.drop k) ∧ OwnO fI wr w.heap.size 3 A8 c8 D ∧ Below w.heap.size w wr) (fun i _ => D.length - (intOf i).toNat)
  case atStart => exact ⟨0, Nat.zero_le _, rfl, by simpa using h7, h8, hbel⟩
  case round =>
    clear h7 h8 hbel
    obtain ⟨k, hk, rfl, h7, h8, hbel⟩ := hrel
    by_cases hlt : k < D.length
    · have hltG : k < G.length := by omega
      have hltW : k < W.length := by have := Hl2.out; omega
      have hlen : (W.take k ++ G.drop k).length = G.length := by have := Hl2.out; simp; omega
      have hx : (W.take k ++ G.drop k)[k]'(by omega) = G[k] := by
        rw [List.getElem_append_right (by simp; omega)]
        simp [Nat.min_eq_left (Nat.le_of_lt hltW)]
      obtain ⟨g7, o7, rfl, hc7, hf7, hlo7, hlt7⟩ := h7.at (k := k) (by omega)
      obtain ⟨g8, o8, rfl, hc8, hf8, hlo8, hlt8⟩ := h8.at (k := k) hlt
      rw [hx] at hc7
      have hset : (W.take k ++ G.drop k).set k (D[k] - G[k]) = W.take (k + 1) ++ G.drop (k + 1) := by
        have e : k - (W.take k).length = 0 := by simp; omega
        rw [List.take_succ_eq_append_getElem hltW, List.set_append_right _ _ (by simp; omega), e, List.drop_eq_getElem_cons hltG, List.set_cons_zero, List.append_assoc, Hget.out k hltW hlt hltG]
        rfl
      have hs7 := h7.set (k := k) (x := D[k] - G[k]) (by omega)
      rw [hset] at hs7
      have hs8 := h8.grown (only_set (w := wr) (g := g7) (k := o7 + k) (fI (D[k] - G[k]))) (by
        refine .inr fun e => ?_
        exact hs g7 rfl (by simpa using e))
      have Hs7 := Lib.hid hs7
      have Hs8 := Lib.hid hs8
      have hdb := hd D[k] (List.getElem_mem _)
      have hgb := hg G[k] (List.getElem_mem _)
      generalize D[k] = x at *
      generalize G[k] = y at *
      obtain ⟨hd1, hd2⟩ := hdb
      obtain ⟨hg1, hg2⟩ := hgb
      clear hset hs7 hs8 h7 h8 hx hlen hd hg hs
      simp only [fI] at hc7 hc8
      go_wp2_with fail
      go_roundw
      case rel => exact ⟨k + 1, by omega, by go_num, Hs7.out, Hs8.out, hbel.setCell hlo7 _⟩
      case measure => simp [intOf]; omega
    · obtain rfl : k = D.length := by omega
      have hW : OwnO fI wr w.heap.size 3 A7 c7 W := by
        have e : W.take D.length ++ G.drop D.length = W := by
          have h1 := Hl1.out
          have h2 := Hl2.out
          rw [List.drop_of_length_le (by omega), List.append_nil, List.take_of_length_le (by omega)]
        rwa [e] at h7
      clear h7 h8 hd hg hs
      go_wp2_with fail
      go_ret
      exact ⟨A7, c7, by rw [Hl2.out, ← Hl1.out]; rfl, hW, hbel⟩

theorem queues_small (ar : List Int) (gr : List Bool) (hv : validQ ar gr = true) : Small (queuesTo ar gr ar.length) := by
  have hf := validQ_few hv
  have hl := validQ_len hv
  refine ⟨by rw [queuesTo_length]; omega, fun z hz => ?_⟩
  simp only [queuesTo, List.mem_map, List.mem_range] at hz
  obtain ⟨i, hi, rfl⟩ := hz
  have := qlen_bd ar gr hf (i + 1)
  omega
theorem queuesF_yes {ar : List Int} {gr : List Bool} (hv : validQ ar gr = true) : queuesF ar gr = queuesTo ar gr ar.length := by simp [queuesF, hv]
theorem iDelay_any (ar : List Int) (gr : List Bool) (A B : Option Addr) (c d : Nat) (w : World) (ha : RdL fI w A ar) (hb : RdL fB w B gr) (hn : ar.length ≤ 2000000) (hm : gr.length ≤ 2000000) :
    Calls Try.prog 16 #[.slice A ar.length c, .slice B gr.length d] w fun e w' => e = .returned (.int .i64 (delayF ar gr)) ∧ Below w.heap.size w w' := by
  by_cases hv : validQ ar gr = true
  · have H := Lib.hid (show delayF ar gr = sumL (queuesTo ar gr ar.length) by simp [delayF, hv])
    go_enter Try.func16, Try.ntmps16
    go_wp2_with fail
    refine (iValidQ_any ar gr A B c d _ ha hn hm).mono ?_
    rw [hv]
    rintro e w1 ⟨rfl, rfl⟩
    go_wp2_with fail
    refine (iQueues_yes ar gr A B c d _ ha hb hv).mono ?_
    rintro e w1 ⟨A1, c1, rfl, ho, hbel⟩
    go_wp2_with fail
    refine (iSum_any _ _ _ _ ho.rd (queues_small ar gr hv)).mono ?_
    rintro e w2 ⟨rfl, rfl⟩
    go_wp2_with fail
    go_ret
    exact ⟨by rw [H.out]; rfl, hbel⟩
  · have hv : validQ ar gr = false := by simpa using hv
    have H := Lib.hid (show delayF ar gr = -1 by simp [delayF, hv])
    go_enter Try.func16, Try.ntmps16
    go_wp2_with fail
    refine (iValidQ_any ar gr A B c d _ ha hn hm).mono ?_
    rw [hv]
    rintro e w1 ⟨rfl, rfl⟩
    go_wp2_with fail
    go_ret
    exact ⟨by rw [H.out]; rfl, Below.refl _ _⟩
theorem sDelay_any (ar : List Int) (gr : List Bool) (A B : Option Addr) (c d : Nat) (w : World) (ha : RdL fI w A ar) (hb : RdL fB w B gr) (hn : ar.length ≤ 2000000) (hm : gr.length ≤ 2000000) :
    Calls Try.prog 13 #[.slice A ar.length c, .slice B gr.length d] w fun e w' => e = .returned (.int .i64 (delayF ar gr)) ∧ Below w.heap.size w w' := by
  by_cases hv : validQ ar gr = true
  · have H := Lib.hid (show delayF ar gr = sumL (queuesTo ar gr ar.length) by simp [delayF, hv])
    go_enter Try.func13, Try.ntmps13
    go_wp2_with fail
    refine (sValidQ_any ar gr A B c d _ ha hn hm).mono ?_
    rw [hv]
    rintro e w1 ⟨rfl, rfl⟩
    go_wp2_with fail
    refine (queues_any ar gr A B c d _ ha hb hv).mono ?_
    rintro e w1 ⟨A1, c1, rfl, ho, hbel⟩
    go_wp2_with fail
    refine (sSum_any _ _ _ _ ho.rd (queues_small ar gr hv)).mono ?_
    rintro e w2 ⟨rfl, rfl⟩
    go_wp2_with fail
    go_ret
    exact ⟨by rw [H.out]; rfl, hbel⟩
  · have hv : validQ ar gr = false := by simpa using hv
    have H := Lib.hid (show delayF ar gr = -1 by simp [delayF, hv])
    go_enter Try.func13, Try.ntmps13
    go_wp2_with fail
    refine (sValidQ_any ar gr A B c d _ ha hn hm).mono ?_
    rw [hv]
    rintro e w1 ⟨rfl, rfl⟩
    go_wp2_with fail
    go_ret
    exact ⟨by rw [H.out]; rfl, Below.refl _ _⟩

set_option maxHeartbeats 1600000 in
theorem sWaits_any (ar : List Int) (gr : List Bool) (A B : Option Addr) (c d : Nat) (w : World) (ha : RdL fI w A ar) (hb : RdL fB w B gr) (hn : ar.length ≤ 2000000) (hm : gr.length ≤ 2000000) :
    Calls Try.prog 28 #[.slice A ar.length c, .slice B gr.length d] w (NewS fI 3 w (waitsF ar gr)) := by
  by_cases hv : validQ ar gr = true
  · obtain ⟨i0, hi0, hz0, hz1, hz2⟩ := info_parts info_Int
    obtain ⟨hl1, hl2⟩ := validQ_len hv
    have hf := validQ_few hv
    have H := Lib.hid (show waitsF ar gr = waitsTo ar gr ar.length by simp [waitsF, hv])
    have hl3 : ar.length ≤ gr.length := by omega
    have hl4 : gr.length ≤ ar.length := by omega
    clear hl1
    have hout := OwnL.of_cap (lo := w.heap.size) fI (Blk.new w 3 #[]) (Nat.le_refl _) rfl (by simp [maxLen])
    have hcame2 : OwnO fI ((w.alloc (.cells #[] 3)).alloc (.cells #[] 3)) w.heap.size 3 (some ⟨w.heap.size + 1, 0, none⟩) 0 [] := by
      have := (OwnL.of_cap (lo := w.heap.size) fI (Blk.new (w.alloc (.cells #[] 3)) 3 #[]) (by simp) rfl (by simp [maxLen])).o
      simpa using this
    go_enter Try.func28, Try.ntmps28
    go_wp2_with fail
    refine (sValidQ_any ar gr A B c d _ ((ha.alloc _).alloc _) hn hm).mono ?_
    rw [hv]
    rintro e w1 ⟨rfl, rfl⟩
    go_wp2_with fail
    go_loopw [6, 7] (fun v6 i wr => ∃ k : Nat, k ≤ ar.length ∧ i = .int .i64 k ∧ (∃ A6 c6, v6 = .slice A6 (cameTo ar k).length c6 ∧ OwnO fI wr w.heap.size 3 A6 c6 (cameTo ar k) ∧ Sep A6 (some ⟨w.heap.size, 0, none⟩)) ∧
        OwnL fI wr w.heap.size 3 (some ⟨w.heap.size, 0, none⟩) 0 [] ∧ Below w.heap.size w wr) (fun _ i _ => ar.length - (intOf i).toNat)
    case atStart => exact ⟨0, Nat.zero_le _, rfl, ⟨_, _, rfl, hcame2, fun b h1 h2 => by simp at h1 h2; omega⟩, hout.alloc _, ((Below.refl _ _).alloc (Nat.le_refl _) _).alloc (by simp) _⟩
    case round =>
      obtain ⟨k, hk, rfl, ⟨A6, c6, rfl, h6, hsep⟩, ho, hbel⟩ := hrel
      have hlen6 : (cameTo ar k).length ≤ 1000 := by have := cameTo_length ar hf k; omega
      by_cases hlt : k < ar.length
      · obtain ⟨x, hx⟩ : ∃ x : Nat, ga ar k = x := ⟨(ga ar k).toNat, by have := hf k; omega⟩
        have hx3 : x ≤ 3 := by have := hf k; omega
        have hsucc : cameTo ar (k + 1) = cameTo ar k ++ List.replicate x (k : Int) := by rw [cameTo_succ, hx]; simp
        have Hsucc := Lib.hid hsucc
        have Hx := Lib.hid hx
        have hlo := hbel.size
        have Hbel := Lib.hid hbel
        clear hsucc hx hbel hout hcame2
        obtain ⟨wo, rfl⟩ : ∃ wo : World, wo = wr := ⟨_, rfl⟩
        go_wp2_with fail
        go_loopw [6, 8] (fun v6 j wr => ∃ n : Nat, n ≤ x ∧ j = .int .i64 n ∧ (∃ A6' c6', v6 = .slice A6' (cameTo ar k ++ List.replicate n (k : Int)).length c6' ∧
            OwnO fI wr w.heap.size 3 A6' c6' (cameTo ar k ++ List.replicate n (k : Int)) ∧ Sep A6' (some ⟨w.heap.size, 0, none⟩)) ∧ OwnL fI wr w.heap.size 3 (some ⟨w.heap.size, 0, none⟩) 0 [] ∧ Below w.heap.size w wr) (fun _ j _ => x - (intOf j).toNat)
        case atStart => exact ⟨0, Nat.zero_le _, rfl, ⟨A6, c6, by simp, by simpa using h6, hsep⟩, ho, Hbel.out⟩
        case round =>
          clear h6 hsep ho Hbel hlo
          obtain ⟨n, hn', rfl, ⟨A6', c6', rfl, h6, hsep⟩, ho, hbel⟩ := hrel
          have hlo := hbel.size
          have hrep : (cameTo ar k ++ List.replicate n (k : Int)) ++ [(k : Int)] = cameTo ar k ++ List.replicate (n + 1) (k : Int) := by
            rw [List.replicate_succ', List.append_assoc]
          have Hrep := Lib.hid hrep
          have hlenq : (cameTo ar k ++ List.replicate n (k : Int)).length ≤ 2000 := by simp; omega
          obtain ⟨b1, o1, rfl, hc1⟩ := (ha.below hbel).at hlt
          rw [ga_at hlt, Hx.out] at hc1
          simp only [fI] at hc1
          have Hbel := Lib.hid hbel
          clear hrep hbel ha hb
          by_cases hnx : n < x
          · have hlen2 : (cameTo ar k ++ List.replicate n (k : Int)).length + 1 = (cameTo ar k ++ List.replicate (n + 1) (k : Int)).length := by simp; omega
            have Hlen2 := Lib.hid hlen2
            clear hlen2
            generalize cameTo ar k ++ List.replicate n (k : Int) = L at *
            go_wp2_with (at_builtin; refine wpList_pushO rfl (.tmp 31) (.tmp 33) 22 rfl i0 _ 8 Try.underlying22 hi0 hz0 hz1 hz2 rfl rfl (h6.alloc _) wr.heap.size _ rfl (cell_new _ _ _) rfl (by omega) (by omega) (by simp; omega) ?_; intro A2 c2' w2 ho2 hg2 hb2)
            have hbel2 := below_push hlo Hbel.out h6.lt hg2
            have ho3 := (ho.alloc _).grown hg2 hsep.or
            have hsep2 := hsep.push (fun b hb => ((ho.alloc (.cells #[Value.int .i64 (k : Int)] 3)).ltb b hb).2) hb2
            rw [Hrep.out] at ho2
            go_roundw
            case rel => exact ⟨n + 1, by omega, by go_num, ⟨A2, c2', by rw [Hlen2.out], ho2, hsep2⟩, ho3, hbel2⟩
            case measure => simp [intOf]; omega
          · obtain rfl : n = x := by omega
            rw [← Hsucc.out] at h6
            go_wp2_with fail
            go_roundw
            case rel => exact ⟨k + 1, by omega, by go_num, ⟨A6', c6', by rw [Hsucc.out], h6, hsep⟩, ho, Hbel.out⟩
            case measure => simp [intOf]; omega
      · obtain rfl : k = ar.length := by omega
        have ha2 := ha.below hbel
        have hb2 := hb.below hbel
        clear hout hcame2
        go_wp2_with fail
        refine (departures_any ar gr A B c d _ ha2 hb2 hv).mono ?_
        rintro e w2 ⟨A9, c9, rfl, h9, hbel9⟩
        have h62 := h6.below hbel9
        have ho2 := ho.below hbel9
        have hbel2 := hbel.trans (hbel9.mono hbel.size)
        have hs59 : Sep A9 (some ⟨w.heap.size, 0, none⟩) := fun b h1 h2 => by
          have h3 := (h9.ltb b h1).1
          have h4 := (ho.ltb b h2).2
          omega
        have hlo9 := hbel.size
        clear h6 ho hbel hbel9 ha hb ha2 hb2
        have hdl := depart_le ar gr hf ar.length
        have hwl := waits_length ar gr hf ar.length
        have hget := waits_get2 ar gr ar.length
        have hdb := departTo_bd ar gr ar.length
        have hcb := cameTo_bd ar ar.length
        have hdn := departTo_length ar gr ar.length
        generalize departTo ar gr ar.length = D at *
        generalize cameTo ar ar.length = C at *
        generalize waitsTo ar gr ar.length = W at *
        have Hwl := Lib.hid hwl
        have Hget := Lib.hid hget
        clear hwl hget hv
        go_wp2_with fail
        go_loopw [5, 10] (fun v5 i wr => ∃ k : Nat, k ≤ D.length ∧ i = .int .i64 k ∧ (∃ A5 c5, v5 = .slice A5 (W.take k).length c5 ∧ OwnL fI wr w.heap.size 3 A5 c5 (W.take k) ∧ Sep A5 A6 ∧ Sep A5 A9) ∧
            OwnO fI wr w.heap.size 3 A6 c6 C ∧ OwnL fI wr w.heap.size 3 A9 c9 D ∧ Below w.heap.size w wr) (fun _ i _ => D.length - (intOf i).toNat)
        case atStart => exact ⟨0, Nat.zero_le _, rfl, ⟨_, _, rfl, ho2, hsep.symm, hs59.symm⟩, h62, h9.mono hlo9, hbel2⟩
        case round =>
          clear h62 h9 hbel2 ho2 hsep hs59
          obtain ⟨k, hk, rfl, ⟨A5, c5, rfl, h5, hs56, hs59⟩, h6, h9, hbel⟩ := hrel
          by_cases hlt : k < D.length
          · have hltC : k < C.length := by omega
            have hltW : k < W.length := by have := Hwl.out; omega
            have htl : (W.take k).length = k := by simp; omega
            have htl2 : (W.take (k + 1)).length = k + 1 := by simp; omega
            have hts : W.take k ++ [D[k] - C[k]] = W.take (k + 1) := by rw [List.take_succ_eq_append_getElem hltW, Hget.out k hltW hlt hltC]
            obtain ⟨g9, rfl, hc9, _, _, hlt9⟩ := h9.at (k := k) hlt
            obtain ⟨g6, o6, rfl, hc6, _, _, hlt6⟩ := h6.at (k := k) hltC
            have hd1 := hdb D[k] (List.getElem_mem _)
            have hd2 := hcb C[k] (List.getElem_mem _)
            have Hts := Lib.hid hts
            have Htl2 := Lib.hid htl2
            have htl3 : (W.take k).length ≤ 1000 := by omega
            have Htl := Lib.hid htl
            generalize D[k] = x at *
            generalize C[k] = z at *
            obtain ⟨hd1, hd1'⟩ := hd1
            obtain ⟨hd2, hd2'⟩ := hd2
            generalize W.take k = L at *
            have hlo := hbel.size
            simp only [fI] at hc9 hc6
            clear hts htl2 htl hdb hcb hf
            go_wp2_with fail
            have hS9 : ∀ y : Held (fun x' => x'.cell? ⟨g9, k, none⟩ = some (.int .i64 x) ∧ x'.cell? ⟨g6, o6 + k, none⟩ = some (.int .i64 z)), y.x.cell? ⟨g9, k, none⟩ = some (.int .i64 x) := fun y => y.h.1
            have hS6 : ∀ y : Held (fun x' => x'.cell? ⟨g9, k, none⟩ = some (.int .i64 x) ∧ x'.cell? ⟨g6, o6 + k, none⟩ = some (.int .i64 z)), y.x.cell? ⟨g6, o6 + k, none⟩ = some (.int .i64 z) := fun y => y.h.2
            refine wp_region_plan (fun x' => x'.cell? ⟨g9, k, none⟩ = some (.int .i64 x) ∧ x'.cell? ⟨g6, o6 + k, none⟩ = some (.int .i64 z)) [0, 1, 2, 3, 4, 5, 6, 7, 8, 9] [10, 11, 12] (by kernel_rfl) (by kernel_rfl) ⟨hc9, hc6⟩ ?_
            intro hne
            simp only [List.filterMap_cons, List.filterMap_nil, List.getElem?_toArray, List.getElem?_cons_zero, List.getElem?_cons_succ]
            repeat (refine wpEarly_step (fun K hK => ?_); go_simp; refine hK _ ?_; clear hK K)
            refine wpEarly_nil ?_
            refine wpLate_step rfl (fun K hK => ?_)
            go_wp2_with fail
            have k9 : ∀ o, (wr.alloc o).drew.cell? ⟨g9, k, none⟩ = some (.int .i64 x) := fun o => (World.cell?_alloc_lt wr o ⟨g9, k, none⟩ (World.block_lt_of_cell? _ _ hc9)).trans hc9
            have k6 : ∀ o, (wr.alloc o).drew.cell? ⟨g6, o6 + k, none⟩ = some (.int .i64 z) := fun o => (World.cell?_alloc_lt wr o ⟨g6, o6 + k, none⟩ (World.block_lt_of_cell? _ _ hc6)).trans hc6
            refine ⟨⟨k9 _, k6 _⟩, ?_⟩
            refine wpLate_step rfl (fun K hK => ?_)
            refine wp_push (.tmp 44) (.tmp 54) 22 rfl i0 _ 8 Try.underlying22 hi0 hz0 hz1 hz2 rfl rfl (h5.alloc _).drew wr.heap.size _ rfl (cell_new _ _ _) rfl (by omega) (by omega) (by simp; omega) ?_
            intro A2 c2 w3 ho3 hg3 hb3
            have m9 := hg3.cell (k9 _) (fun e => hs59 g9 e.symm rfl)
            have m6 := hg3.cell (k6 _) (fun e => hs56 g6 e.symm rfl)
            have h63 := (h6.alloc _).drew.grown hg3 hs56.or
            have h93 := (h9.alloc _).drew.grown hg3 hs59.or
            have hbel3 := below_push (o := .cells #[Value.int .i64 (x - z)] 3) hlo hbel h5.ltb ⟨hg3.os, hg3.tape, hg3.output, hg3.size, hg3.block⟩
            have hsz : (wr.alloc (.cells #[Value.int .i64 (x - z)] 3)).drew.heap.size = wr.heap.size + 1 := by simp
            have hb3' : blk A2 = blk A5 ∨ ∀ b, blk A2 = some b → wr.heap.size + 1 ≤ b := hb3.imp id (fun h b hb => by rw [h] at hb; injection hb with hb; omega)
            have hs56' := hs56.push (fun b hb => by have := h6.lt b hb; omega) hb3'
            have hs59' := hs59.push (fun b hb => by have := h9.ltb b hb; omega) hb3'
            refine hK _ _ ⟨⟨m9, m6⟩, ?_⟩
            rw [Hts.out] at ho3
            clear hne k9 k6 hc9 hc6 hg3 hb3 hb3' hsz h5 h6 h9 hbel hs56 hs59 hS9 hS6
            refine wpLate_step rfl (fun K hK => ?_)
            go_wp2_with fail
            refine ⟨⟨m9, m6⟩, ?_⟩
            refine wpLate_nil (NoPanic.normal ?_)
            go_wp2_with fail
            go_roundw
            case rel => exact ⟨k + 1, by omega, by go_num, ⟨A2, c2, by rw [Htl2.out, Htl.out], ho3, hs56', hs59'⟩, h63, h93, hbel3⟩
            case measure => simp [intOf]; omega
          · obtain rfl : k = D.length := by omega
            have hW : OwnL fI wr w.heap.size 3 A5 c5 W := by
              have e : W.take D.length = W := by rw [← Hwl.out, take_all]
              rwa [e] at h5
            have HlW := Lib.hid (show (W.take D.length).length = W.length by rw [← Hwl.out, take_all])
            generalize W.take D.length = L at *
            clear hdb hcb h6 h9 hs56 hs59
            go_wp2_with fail
            go_ret
            exact ⟨A5, c5, by rw [H.out, ← HlW.out]; rfl, by rw [H.out]; exact hW.o, hbel⟩
  · have hv : validQ ar gr = false := by simpa using hv
    have H := Lib.hid (show waitsF ar gr = [] by simp [waitsF, hv])
    go_enter Try.func28, Try.ntmps28
    go_wp2_with fail
    refine (sValidQ_any ar gr A B c d _ ((ha.alloc _).alloc _) hn hm).mono ?_
    rw [hv]
    rintro e w1 ⟨rfl, rfl⟩
    go_wp2_with fail
    go_ret
    rw [H.out]
    exact ⟨none, 0, rfl, OwnO.nil _ _ _ _, ((Below.refl _ _).alloc (Nat.le_refl _) _).alloc (by simp) _⟩
end Go.Proofs.Ytlafbfphegmbaaa
