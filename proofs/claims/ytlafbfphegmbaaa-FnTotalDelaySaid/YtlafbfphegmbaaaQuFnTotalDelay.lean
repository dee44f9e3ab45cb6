/-
  The statement FnTotalDelay: delays are waits.
-/
import Derived.Test.YtlafbfphegmbaaaOpen
import Derived.Test.YtlafbfphegmbaaaDrList
import Derived.Test.YtlafbfphegmbaaaWaits
import Derived.Test.YtlafbfphegmbaaaQuLaw
namespace Go.Proofs.Ytlafbfphegmbaaa.FnTotalDelay
open Go.RowKit Go.ChangeShapes Go.WideShapes Go.ChangeAt Go.Proofs.Ytlafbfphegmbaaa
set_option linter.unusedVariables false

def tot (S : Int) (D : Nat) (L : Int) (P : List Int) : Int := S + restL (P.drop D) L
theorem tot_skip {S : Int} {D : Nat} {L : Int} {P : List Int} (x : Int) (h : P.length < D) : tot S D L (P ++ [x]) = tot S D L P := by
  simp only [tot]
  rw [List.drop_eq_nil_of_le (by simp; omega), List.drop_eq_nil_of_le (by omega)]
theorem tot_add {S : Int} {D : Nat} {L : Int} {P : List Int} (x : Int) (h : D ≤ P.length) : tot S D L (P ++ [x]) = tot S D L P + L - x := by
  simp only [tot]
  rw [List.drop_append_of_le_length h, restL_append]
  simp [restL, sumL]
  omega
theorem rest_bd (L : Int) (hL : L ≤ 150) : ∀ zs : List Int, (∀ z ∈ zs, 0 ≤ z ∧ z ≤ L) → 0 ≤ restL zs L ∧ restL zs L ≤ 150 * (zs.length : Int)
  | [], _ => by simp [restL, sumL]
  | z :: zs, h => by
    have h1 := rest_bd L hL zs (fun x hx => h x (by simp [hx]))
    have h2 := h z (by simp)
    simp only [restL, List.map_cons, sumL_cons, List.length_cons] at h1 ⊢
    omega
theorem tot_bd {S : Int} {D : Nat} {L : Int} {P : List Int} (hL : L ≤ 150) (h : ∀ z ∈ P, 0 ≤ z ∧ z ≤ L) (hP : P.length ≤ 450) (hS : 0 ≤ S ∧ S ≤ 150000000000) : 0 ≤ tot S D L P ∧ tot S D L P ≤ 150000100000 := by
  have h1 := rest_bd L hL (P.drop D) (fun z hz => h z (List.mem_of_mem_drop hz))
  rw [List.length_drop] at h1
  simp only [tot]
  omega
theorem waits_small (ar : List Int) (gr : List Bool) (hv : validQ ar gr = true) : Small (waitsF ar gr) ∧ 0 ≤ sumL (waitsF ar gr) ∧ sumL (waitsF ar gr) ≤ 150000000000 := by
  obtain ⟨l1, l2, l3⟩ := lens ar gr
  have key : ∀ z ∈ waitsF ar gr, 0 ≤ z ∧ z ≤ 1000 := by
    intro z hz
    obtain ⟨i, hi, rfl⟩ := List.getElem_of_mem hz
    have h1 := departF_bd ar gr _ (List.getElem_mem (show i < (departF ar gr).length by omega))
    have h2 := goneF_bd ar gr _ (List.getElem_mem (show i < (goneF ar gr).length by omega))
    rw [waitsF_get ar gr i hi (by omega) (by omega)]
    have h3 : 0 ≤ (waitsF ar gr)[i] := by
      have hm := List.getElem_mem hi
      simp only [waitsF, hv, if_true] at hm ⊢
      exact waits_nonneg ar gr (validQ_few hv) _ _ hm
    rw [waitsF_get ar gr i hi (by omega) (by omega)] at h3
    omega
  have hs : Small (waitsF ar gr) := ⟨by omega, fun z hz => by have := key z hz; omega⟩
  have h1 := sumL_small _ hs (waitsF ar gr).length (Nat.le_refl _)
  rw [List.take_length] at h1
  refine ⟨hs, ?_, by omega⟩
  have : ∀ zs : List Int, (∀ z ∈ zs, 0 ≤ z ∧ z ≤ 1000) → 0 ≤ sumL zs := by
    intro zs
    induction zs with
    | nil => intro _; simp [sumL]
    | cons z zs ih =>
      intro h
      have h1 := ih (fun x hx => h x (by simp [hx]))
      have h2 := h z (by simp)
      rw [sumL_cons]
      omega
  exact this _ key
theorem came_ok (ar : List Int) (h : Few ar) (i k : Nat) (hi : i < ar.length) (hL : ar.length ≤ 150) (hk : (k : Int) ≤ ga ar i) :
    (∀ z ∈ cameTo ar i ++ List.replicate k (i : Int), 0 ≤ z ∧ z ≤ (ar.length : Int)) ∧ (cameTo ar i ++ List.replicate k (i : Int)).length ≤ 450 := by
  constructor
  · intro z hz
    rw [List.mem_append, List.mem_replicate] at hz
    rcases hz with hz | ⟨_, rfl⟩
    · have := cameTo_bd ar i z hz
      omega
    · omega
  · have := cameTo_length ar h i
    have := h i
    simp only [List.length_append, List.length_replicate]
    omega

set_option maxHeartbeats 1600000 in
theorem walk (A : Option Addr) (len cap : Nat) (w : World) (h : Bytes w A len) (hc : len ≤ cap) :
    Calls Try.prog 12 #[.slice A len cap] w fun e w' => e = .returned (.bool true) ∧ Below w.heap.size w w' := by
  by_cases hl1 : 1048576 < len
  · go_enter Try.func12, Try.ntmps12
    go_wp2_with fail
    go_ret
    exact ⟨rfl, Below.refl _ _⟩
  go_enter Try.func12, Try.ntmps12
  go_wp2_with fail
  refine (drawQ4_any _ A len cap h hc).mono ?_
  rintro e w1 ⟨ar, gr, A1, B1, c1, d1, rfl, ha, hb, hla, hlb, hsep, hB⟩
  replace ha := ha.rd
  replace hb := hb.rd
  have hz := hB.size
  clear h hsep
  obtain ⟨n, hn⟩ : ∃ n, n = delayF ar gr := ⟨_, rfl⟩
  have hI := fun w ha hb => iDelay_any ar gr A1 B1 c1 d1 w ha hb (by omega) (by omega)
  have hW := fun w ha hb => sDelay_any ar gr A1 B1 c1 d1 w ha hb (by omega) (by omega)
  rw [← hn] at hI hW
  have Hn := Lib.hid hn
  clear hn
  go_wp2_with fail
  refine (hI _ ha hb).mono ?_
  rintro e w2 ⟨rfl, b2⟩
  replace ha := ha.below b2
  replace hb := hb.below b2
  replace hB := hB.trans (b2.mono hz)
  have hz2 := hB.size
  clear b2 hI
  by_cases hneg : n < 0
  · go_wp2_with fail
    refine (hW _ ha hb).mono ?_
    rintro e w3 ⟨rfl, b3⟩
    replace ha := ha.below b3
    replace hb := hb.below b3
    replace hB := hB.trans (b3.mono hz2)
    have hz3 := hB.size
    clear b3
    go_wp2_with fail
    refine (hW _ ha hb).mono ?_
    rintro e w4 ⟨rfl, b4⟩
    replace hB := hB.trans (b4.mono hz3)
    clear b4
    go_wp2_with fail
    go_ret
    exact ⟨by simp, hB⟩
  have hv : validQ ar gr = true := by
    by_cases hv : validQ ar gr = true
    · exact hv
    · have := Hn.out
      rw [delayF, if_neg hv] at this
      omega
  have hf := validQ_few hv
  have hLg := validQ_len hv
  have hA150 : ar.length ≤ 150 := hLg.2
  obtain ⟨hs, hs0, hs1⟩ := waits_small ar gr hv
  obtain ⟨l1, l2, l3⟩ := lens ar gr
  have hwl : (waitsF ar gr).length ≤ 150 := by omega
  have hfin : n = tot (sumL (waitsF ar gr)) (waitsF ar gr).length (ar.length : Int) (cameTo ar ar.length) := by
    have h1 := delay_law ar gr hf ar.length
    rw [Hn.out, delayF, if_pos hv, h1, tot, l2, waitsF, if_pos hv, departF, if_pos hv]
    rfl
  have Hfin := Lib.hid hfin
  have hneg2 : decide (n < 0) = false := by simpa using hneg
  clear hfin hLg l1 l2 l3 hv
  go_wp2_with fail
  refine (hW _ ha hb).mono ?_
  rintro e w3 ⟨rfl, b3⟩
  replace ha := ha.below b3
  replace hb := hb.below b3
  replace hB := hB.trans (b3.mono hz2)
  have hz3 := hB.size
  clear b3 hW
  go_wp2_with fail
  refine (iWaits_any ar gr A1 B1 c1 d1 _ ha hb (by omega) (by omega)).mono ?_
  rintro e w4 ⟨A4, c4, rfl, h4, b4⟩
  replace h4 := h4.rd
  replace ha := ha.below b4
  replace hB := hB.trans (b4.mono hz3)
  have hz4 := hB.size
  clear b4 hb
  go_wp2_with fail
  refine (sumL_any (waitsF ar gr) A4 c4 _ h4 hs).mono ?_
  rintro e w5 ⟨rfl, rfl⟩
  clear h4 hneg hneg2
  obtain ⟨S, hS⟩ : ∃ S, S = sumL (waitsF ar gr) := ⟨_, rfl⟩
  obtain ⟨D, hD⟩ : ∃ D, D = (waitsF ar gr).length := ⟨_, rfl⟩
  rw [← hS, ← hD] at Hfin
  rw [← hS] at hs0 hs1 ⊢
  rw [← hD] at hwl ⊢
  have t0 : tot S D (ar.length : Int) [] = S := by simp [tot, restL, sumL]
  have T0 := Lib.hid t0
  clear hS hs hD t0
  go_wp2_with fail
  go_loopw [7, 8, 9] (fun t s i wr => ∃ k : Nat, k ≤ ar.length ∧ i = .int .i64 k ∧ t = .int .i64 (tot S D (ar.length : Int) (cameTo ar k)) ∧ s = .int .i64 ((D - (cameTo ar k).length : Nat) : Int) ∧ ∃ m, wr = w4.drewN m) (fun _ _ i _ => ar.length - (intOf i).toNat)
  case atStart => exact ⟨0, Nat.zero_le _, rfl, by rw [cameTo_nil, T0.out], by rw [cameTo_nil]; rfl, 0, rfl⟩
  case round =>
    clear hz hz2 hz3 hz4 hla hlb hl1 hc
    obtain ⟨i, hi, rfl, rfl, rfl, m, rfl⟩ := hrel
    by_cases hlt : i < ar.length
    · obtain ⟨b1, o1, rfl, hc1⟩ := ha.at hlt
      rw [ga_at hlt] at hc1
      have hga := hf i
      have hok := fun k hk => came_ok ar hf i k hlt hA150 hk
      have hnext := Lib.hid (cameTo_succ ar i)
      have Hok := Lib.hid hok
      have Ha := Lib.hid ha
      have Hf := Lib.hid hf
      clear ha hok hf
      generalize ga ar i = x at hc1 hga hnext Hok
      simp only [fI] at hc1
      have hP0 : cameTo ar i = cameTo ar i ++ List.replicate 0 (i : Int) := by simp
      have HP0 := Lib.hid hP0
      clear hP0
      go_wp2_with fail
      go_loopw [7, 8, 10] (fun t s j wr => ∃ k : Nat, (k : Int) ≤ x ∧ j = .int .i64 k ∧ t = .int .i64 (tot S D (ar.length : Int) (cameTo ar i ++ List.replicate k (i : Int))) ∧ s = .int .i64 ((D - (cameTo ar i ++ List.replicate k (i : Int)).length : Nat) : Int) ∧ ∃ m, wr = w4.drewN m) (fun _ _ j _ => x.toNat - (intOf j).toNat)
      case atStart => exact ⟨0, by omega, rfl, by rw [← HP0.out], by rw [← HP0.out], m, rfl⟩
      case round =>
        obtain ⟨k, hk, rfl, rfl, rfl, m2, rfl⟩ := hrel
        have hbd := Hok.out k hk
        have htb := tot_bd (S := S) (D := D) (by omega) hbd.1 hbd.2 ⟨hs0, hs1⟩
        have hpl := hbd.2
        have hrep := Lib.hid (show cameTo ar i ++ List.replicate (k + 1) (i : Int) = (cameTo ar i ++ List.replicate k (i : Int)) ++ [(i : Int)] by rw [List.replicate_succ', List.append_assoc])
        have hts := Lib.hid (fun h => tot_skip (S := S) (D := D) (L := (ar.length : Int)) (P := cameTo ar i ++ List.replicate k (i : Int)) (i : Int) h)
        have hta := Lib.hid (fun h => tot_add (S := S) (D := D) (L := (ar.length : Int)) (P := cameTo ar i ++ List.replicate k (i : Int)) (i : Int) h)
        by_cases hltk : (k : Int) < x
        · generalize hPe : cameTo ar i ++ List.replicate k (i : Int) = P at *
          clear hbd hPe
          obtain ⟨t, ht⟩ : ∃ t, t = tot S D (ar.length : Int) P := ⟨_, rfl⟩
          rw [← ht] at htb ⊢
          have Ht := Lib.hid ht
          clear ht
          obtain ⟨p, hp⟩ : ∃ p, p = P.length := ⟨_, rfl⟩
          rw [← hp] at hpl ⊢
          have Hp := Lib.hid hp
          clear hp
          by_cases hsk : p < D
          · have hd : ((D - p : Nat) : Int) = (D : Int) - (p : Int) := by omega
            rw [hd]
            have hd2 : (0 : Int) < (D : Int) - (p : Int) := by omega
            clear hd
            go_wp2_with fail
            go_roundw
            case rel => exact ⟨k + 1, by omega, by go_num, by rw [hrep.out, hts.out (by rw [← Hp.out]; exact hsk), Ht.out], by rw [hrep.out, List.length_append, ← Hp.out]; simp; omega, m2, rfl⟩
            case measure => simp [intOf]; omega
          · have hd : ((D - p : Nat) : Int) = 0 := by omega
            rw [hd]
            clear hd
            go_wp2_with fail
            go_roundw
            case rel => exact ⟨k + 1, by omega, by go_num, by rw [hrep.out, hta.out (by rw [← Hp.out]; omega), Ht.out], by rw [hrep.out, List.length_append, ← Hp.out]; simp; omega, m2, rfl⟩
            case measure => simp [intOf]; omega
        · have hkx : k = x.toNat := by omega
          have hend : cameTo ar i ++ List.replicate k (i : Int) = cameTo ar (i + 1) := by rw [hnext.out, hkx]
          have Hend := Lib.hid hend
          clear hend hkx hbd
          go_wp2_with fail
          go_roundw
          case rel => exact ⟨i + 1, by omega, by go_num, by rw [Hend.out], by rw [Hend.out], m2, rfl⟩
          case measure => simp [intOf]; omega
    · obtain rfl : i = ar.length := by omega
      have hF := Hfin.out
      rw [← hF]
      clear hF
      go_wp2_with fail
      go_ret
      exact ⟨by simp, below_drewN hB _⟩

set_option maxRecDepth 100000 in
theorem lifted (os : Os) (started : os.Started) (H : Type) (enc : TypeId × Value → H) :
    ReturnsInHanded {} Try.checked os 12 .any (Rows.fnTotalDelaySpec.pre6 enc Try.prog Try.f12 Rows.fnTotalDelayRow.domain false) (Rows.fnTotalDelaySpec.post enc Try.prog Try.f12 false true false false) := by
  refine returnsInHanded_of_change (C := Try.checked) own started (by kernel_rfl) Try.func12
    (ChangeSpec.witness6 (enc := enc) (C := Try.checked) false ⟨#[], #[.slice none 0 0], []⟩ 8 (by kernel_rfl) (by kernel_rfl) (by kernel_rfl) (by kernel_rfl)) ?_
  intro W base args ds gs before hval0 hW hcnd _
  have hval : ∀ (j : Nat) t v, Try.f12.params[j]? = some t → args[j]? = some v → Value.okWide Try.prog W .any base t v := hval0
  have hW' := hW
  obtain ⟨p, q, hA0, hV, rfl, hfz, hnd⟩ := hW
  have hA : DataW.TrodAll enc Try.prog W 0 (fun _ => true) true Try.f12.params.toList args.toList ds p := hA0
  rw [Try.params12] at hA hval
  obtain ⟨v0, vs0, d0, ds0, p0, q0, hargs, rfl, rfl, h0, r0⟩ := trodAll_cons hA
  obtain ⟨rfl, rfl, rfl⟩ := trodAll_nil r0
  obtain rfl : args = #[v0] := by cases args; simp_all
  obtain ⟨rfl, rfl⟩ := trodVars_none hV
  have k0 := h0
  have lt0 : ∀ x ∈ p0, x.block < W.heap.size := by obtain ⟨m, hm⟩ := k0; exact DataW.trod_lt m _ _ _ hm
  obtain ⟨a0, len0, cap0, rfl⟩ := okWide_slice Try.underlying33 (hval 0 33 v0 rfl rfl)
  obtain ⟨w0, hc0⟩ := open_bytes Try.underlying33 Try.underlying5 (by kernel_rfl) h0
  clear hA0 hval0
  refine (walk a0 len0 cap0 W w0 hc0).mono fun e W' ⟨he, bel⟩ => ?_
  subst he
  exact ⟨_, rfl, _, _, _, [], _, [], hW', trodAll_mk1 (shut_bool Try.underlying4 _), (trodAll_cons_mk (Below.trod laidOut (by kernel_rfl) (of_decide_eq_true (by kernel_rfl)) k0 bel lt0) trodAll_mk0), rfl, bel.frame _, fun h => by cases h⟩

theorem over : Rows.fnTotalDelayRow.holds Try.pinned (OpenSpec.ofChange Rows.fnTotalDelaySpec) :=
  OpenClaim.holds_of_wide 12 Try.f12 rfl rfl rfl rfl rfl rfl rfl ⟨rfl, rfl, rfl, rfl, rfl⟩ rfl rfl rfl rfl rfl (by kernel_rfl) Try.func12 (by kernel_rfl)
    (of_decide_eq_true (by kernel_rfl)) (by unfold Func.isWrapper; first | (rw [if_pos (by decide +kernel)]; kernel_rfl) | (rw [if_neg (by decide +kernel)]; exact ⟨rfl, rfl⟩))
    (fun os started H enc _ => lifted os started H enc)

theorem proved : Rows.FnTotalDelaySaid := over
end Go.Proofs.Ytlafbfphegmbaaa.FnTotalDelay
