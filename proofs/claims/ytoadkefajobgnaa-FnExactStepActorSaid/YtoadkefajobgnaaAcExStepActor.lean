/-
  The statement FnExactStepActor: the program's function returns what the reference's returns.
-/
import Derived.Test.YtoadkefajobgnaaAcEx2
namespace Go.Proofs.Ytoadkefajobgnaa.FnExactStepActor
open Go.RowKit Go.ChangeShapes Go.WideShapes Go.ChangeAt Go.Proofs.Ytoadkefajobgnaa
set_option linter.unusedVariables false

set_option maxHeartbeats 6400000 in
theorem walk (a : Ctl) (A : Option Addr) (c : Nat) (C : Option Addr) (d : Nat) (cars : List Bool) (w : World) (hr0 : RdL fB w A a.wa) (hn : a.wa.length ≤ maxLen) (hc0 : RdL fB w C cars) :
    Calls Try.prog 12 #[acV a A c, .slice C cars.length d] w fun e w' => e = .returned (.bool true) ∧ Below w.heap.size w w' := by
  by_cases hl1 : 1048576 < cars.length
  · go_enter Try.func12, Try.ntmps12
    go_wp2_with fail
    go_ret
    exact ⟨rfl, (Below.refl _ _).alloc (Nat.le_refl _) _⟩
  have bA := Blk.new w 24 (acC a A c)
  have hB := (Below.refl w.heap.size w).alloc (Nat.le_refl _) (.cells (acC a A c) 24)
  have hsz : szF a.wa.length 1048576 < 0 ∨ (0 ≤ szF a.wa.length 1048576 ∧ a.wa.length ≤ 1048576) := by
    unfold szF; split <;> omega
  go_enter Try.func12, Try.ntmps12
  go_wp2_with fail
  generalize w.alloc (.cells (acC a A c) 24) = w0 at *
  have hR := stepG_len (a := a) (cars := cars)
  obtain ⟨bA0, bA1, bA2, bA3, bA4, bA5⟩ := loadT bA
  have bAl := bA.lt
  go_wp2_with fail
  refine (szActor_any a A c _ hn).mono ?_
  rintro e w1 ⟨rfl, v1⟩
  replace bA := bA.below v1 bA.lt
  replace hB := hB.trans (v1.mono hB.size)
  clear v1
  clear bA0 bA1 bA2 bA3 bA4 bA5 bAl
  rcases hsz with hneg | ⟨hpos, hlen⟩
  · go_wp2_with fail
    go_ret
    exact ⟨rfl, hB⟩
  obtain ⟨bA0, bA1, bA2, bA3, bA4, bA5⟩ := loadT bA
  have bAl := bA.lt
  go_wp2_with fail
  refine (toActor_any a A c _ (hr0.below hB) hlen).mono ?_
  rintro e w2 ⟨At1, ct1, rfl, yt1, v2⟩
  have lyt1 := hB.size
  have nyt1bA : ∀ b, blk At1 = some b → b ≠ w.heap.size := fun b h => by have h1 := (yt1.lt b h).1; have h2 := bA.lt; omega
  replace bA := bA.below v2 bA.lt
  replace hB := hB.trans (v2.mono hB.size)
  clear v2
  clear bA0 bA1 bA2 bA3 bA4 bA5 bAl
  go_wp2_with fail
  refine ((toBoolS_any cars C d _ (hc0.below hB) (by omega)).mono fun _ _ h => h.s).mono ?_
  rintro e w3 ⟨At2, ct2, rfl, yt2, v3⟩
  have lyt2 := hB.size
  have nyt2bA : ∀ b, blk At2 = some b → b ≠ w.heap.size := fun b h => by have h1 := (yt2.lt b h).1; have h2 := bA.lt; omega
  have syt1yt2 := yt1.sep yt2 (Nat.le_refl _)
  replace yt1 := yt1.below v3
  replace bA := bA.below v3 bA.lt
  replace hB := hB.trans (v3.mono hB.size)
  clear v3
  go_wp2_with fail
  refine (sStepG_any a cars At1 At2 ct1 ct2 _ yt1.rd yt2.rd).mono ?_
  rintro e w4 ⟨Aw, cw, rfl, yw, v4⟩
  have lyw := hB.size
  have nywbA : ∀ b, blk Aw = some b → b ≠ w.heap.size := fun b h => by have h1 := (yw.lt b h).1; have h2 := bA.lt; omega
  have syt1yw := yt1.sep yw (Nat.le_refl _)
  have syt2yw := yt2.sep yw (Nat.le_refl _)
  replace yt1 := yt1.below v4
  replace yt2 := yt2.below v4
  replace bA := bA.below v4 bA.lt
  replace hB := hB.trans (v4.mono hB.size)
  clear v4
  clear yt1 yt2
  obtain ⟨bA0, bA1, bA2, bA3, bA4, bA5⟩ := loadT bA
  have bAl := bA.lt
  go_wp2_with fail
  have nywb6 : ∀ b, blk Aw = some b → b ≠ w4.heap.size := fun b h => by have h1 := (yw.lt b h).2; omega
  have b6 := Blk.new w4 27 (acC (stepG a cars) Aw cw)
  replace yw := yw.alloc (.cells (acC (stepG a cars) Aw cw) 27)
  replace bA := bA.alloc (.cells (acC (stepG a cars) Aw cw) 27)
  replace hB := hB.alloc hB.size (.cells (acC (stepG a cars) Aw cw) 27)
  generalize w4.alloc (.cells (acC (stepG a cars) Aw cw) 27) = w4b at *
  refine (toActor_any a A c _ (hr0.below hB) hlen).mono ?_
  rintro e w5 ⟨A7, c7, rfl, y7, v5⟩
  have ly7 := hB.size
  have ny7bA : ∀ b, blk A7 = some b → b ≠ w.heap.size := fun b h => by have h1 := (y7.lt b h).1; have h2 := bA.lt; omega
  have ny7b6 : ∀ b, blk A7 = some b → b ≠ w4.heap.size := fun b h => by have h1 := (y7.lt b h).1; have h2 := b6.lt; omega
  have sywy7 := yw.sep y7 (Nat.le_refl _)
  replace yw := yw.below v5
  replace bA := bA.below v5 bA.lt
  replace b6 := b6.below v5 b6.lt
  replace hB := hB.trans (v5.mono hB.size)
  clear v5
  clear bA0 bA1 bA2 bA3 bA4 bA5 bAl
  go_wp2_with fail
  have nywb7 : ∀ b, blk Aw = some b → b ≠ w5.heap.size := fun b h => by have h1 := (yw.lt b h).2; omega
  have ny7b7 : ∀ b, blk A7 = some b → b ≠ w5.heap.size := fun b h => by have h1 := (y7.lt b h).2; omega
  have b7 := Blk.new w5 27 (acC a A7 c7)
  replace yw := yw.alloc (.cells (acC a A7 c7) 27)
  replace y7 := y7.alloc (.cells (acC a A7 c7) 27)
  replace bA := bA.alloc (.cells (acC a A7 c7) 27)
  replace b6 := b6.alloc (.cells (acC a A7 c7) 27)
  replace hB := hB.alloc hB.size (.cells (acC a A7 c7) 27)
  generalize w5.alloc (.cells (acC a A7 c7) 27) = w5b at *
  refine ((toBoolS_any cars C d _ (hc0.below hB) (by omega)).mono fun _ _ h => h.s).mono ?_
  rintro e w6 ⟨A8, c8, rfl, y8, v6⟩
  have ly8 := hB.size
  have ny8bA : ∀ b, blk A8 = some b → b ≠ w.heap.size := fun b h => by have h1 := (y8.lt b h).1; have h2 := bA.lt; omega
  have ny8b6 : ∀ b, blk A8 = some b → b ≠ w4.heap.size := fun b h => by have h1 := (y8.lt b h).1; have h2 := b6.lt; omega
  have ny8b7 : ∀ b, blk A8 = some b → b ≠ w5.heap.size := fun b h => by have h1 := (y8.lt b h).1; have h2 := b7.lt; omega
  have sywy8 := yw.sep y8 (Nat.le_refl _)
  have sy7y8 := y7.sep y8 (Nat.le_refl _)
  replace yw := yw.below v6
  replace y7 := y7.below v6
  replace bA := bA.below v6 bA.lt
  replace b6 := b6.below v6 b6.lt
  replace b7 := b7.below v6 b7.lt
  replace hB := hB.trans (v6.mono hB.size)
  clear v6
  obtain ⟨b70, b71, b72, b73, b74, b75⟩ := loadT b7
  have b7l := b7.lt
  go_wp2_with fail
  refine (iStepG_any a cars A7 A8 c7 c8 _ y7.rd y8.rd).mono ?_
  rintro e w7 ⟨A9, c9, rfl, y9, v7⟩
  have ly9 := hB.size
  have ny9bA : ∀ b, blk A9 = some b → b ≠ w.heap.size := fun b h => by have h1 := (y9.lt b h).1; have h2 := bA.lt; omega
  have ny9b6 : ∀ b, blk A9 = some b → b ≠ w4.heap.size := fun b h => by have h1 := (y9.lt b h).1; have h2 := b6.lt; omega
  have ny9b7 : ∀ b, blk A9 = some b → b ≠ w5.heap.size := fun b h => by have h1 := (y9.lt b h).1; have h2 := b7.lt; omega
  have sywy9 := yw.sep y9 (Nat.le_refl _)
  have sy7y9 := y7.sep y9 (Nat.le_refl _)
  have sy8y9 := y8.sep y9 (Nat.le_refl _)
  replace yw := yw.below v7
  replace y7 := y7.below v7
  replace y8 := y8.below v7
  replace bA := bA.below v7 bA.lt
  replace b6 := b6.below v7 b6.lt
  replace b7 := b7.below v7 b7.lt
  replace hB := hB.trans (v7.mono hB.size)
  clear v7
  clear b70 b71 b72 b73 b74 b75 b7l
  obtain ⟨b60, b61, b62, b63, b64, b65⟩ := loadT b6
  have b6l := b6.lt
  go_wp2_with fail
  have nywb9 : ∀ b, blk Aw = some b → b ≠ w7.heap.size := fun b h => by have h1 := (yw.lt b h).2; omega
  have ny7b9 : ∀ b, blk A7 = some b → b ≠ w7.heap.size := fun b h => by have h1 := (y7.lt b h).2; omega
  have ny8b9 : ∀ b, blk A8 = some b → b ≠ w7.heap.size := fun b h => by have h1 := (y8.lt b h).2; omega
  have ny9b9 : ∀ b, blk A9 = some b → b ≠ w7.heap.size := fun b h => by have h1 := (y9.lt b h).2; omega
  have b9 := Blk.new w7 27 (acC (stepG a cars) A9 c9)
  replace yw := yw.alloc (.cells (acC (stepG a cars) A9 c9) 27)
  replace y7 := y7.alloc (.cells (acC (stepG a cars) A9 c9) 27)
  replace y8 := y8.alloc (.cells (acC (stepG a cars) A9 c9) 27)
  replace y9 := y9.alloc (.cells (acC (stepG a cars) A9 c9) 27)
  replace bA := bA.alloc (.cells (acC (stepG a cars) A9 c9) 27)
  replace b6 := b6.alloc (.cells (acC (stepG a cars) A9 c9) 27)
  replace b7 := b7.alloc (.cells (acC (stepG a cars) A9 c9) 27)
  replace hB := hB.alloc hB.size (.cells (acC (stepG a cars) A9 c9) 27)
  generalize w7.alloc (.cells (acC (stepG a cars) A9 c9) 27) = w7b at *
  refine (eqActor_same (stepG a cars) A9 Aw c9 cw _ y9.rd yw.rd (by omega)).mono ?_
  rintro e w8 ⟨rfl, v8⟩
  replace yw := yw.below v8
  replace y7 := y7.below v8
  replace y8 := y8.below v8
  replace y9 := y9.below v8
  replace bA := bA.below v8 bA.lt
  replace b6 := b6.below v8 b6.lt
  replace b7 := b7.below v8 b7.lt
  replace b9 := b9.below v8 b9.lt
  replace hB := hB.trans (v8.mono hB.size)
  clear v8
  clear b60 b61 b62 b63 b64 b65 b6l
  go_wp2_with fail
  obtain ⟨S, hS⟩ : ∃ S : World → Prop, S = fun x => Blk x w.heap.size 24 (acC a A c) ∧ Blk x w5.heap.size 27 (acC a A7 c7) := ⟨_, rfl⟩
  have hS1 : ∀ x, S x → Blk x w.heap.size 24 (acC a A c) := fun x h => by rw [hS] at h; exact h.1
  have hS2 : ∀ x, S x → Blk x w5.heap.size 27 (acC a A7 c7) := fun x h => by rw [hS] at h; exact h.2
  have hS3 : ∀ x, Blk x w.heap.size 24 (acC a A c) → Blk x w5.heap.size 27 (acC a A7 c7) → S x := fun x h1 h2 => by rw [hS]; exact ⟨h1, h2⟩
  obtain ⟨k0, k1, k2, k3, k4, k5⟩ := held_cells hS1
  obtain ⟨j0, j1, j2, j3, j4, j5⟩ := held_cells hS2
  have HS3 := Lib.hid hS3
  clear hS hS1 hS2 hS3
  refine wp_region_plan S [0, 1] [2, 3, 4] (by kernel_rfl) (by kernel_rfl) (HS3.out _ bA.drew b7.drew) ?_
  intro hne
  simp only [List.filterMap_cons, List.filterMap_nil, List.getElem?_toArray, List.getElem?_cons_zero, List.getElem?_cons_succ]
  repeat (refine wpEarly_step (fun K hK => ?_); go_simp; refine hK _ ?_; clear hK K)
  refine wpEarly_nil ?_
  clear k0 k1 k2 k3 k4 k5 j0 j1 j2 j3 j4 j5 hne
  replace hB := hB.drew
  replace yw := yw.drew
  replace y7 := y7.drew
  replace y8 := y8.drew
  replace y9 := y9.drew
  replace bA := bA.drew
  replace b6 := b6.drew
  replace b7 := b7.drew
  replace b9 := b9.drew
  generalize w8.drew = w8d at *
  refine wpLate_step rfl (fun K hK => ?_)
  go_wp2_with fail
  refine (toActor_any a A c _ (hr0.below hB) hlen).mono ?_
  rintro e w9 ⟨At3, ct3, rfl, yt3, v9⟩
  replace yw := yw.below v9
  replace y7 := y7.below v9
  replace y8 := y8.below v9
  replace y9 := y9.below v9
  replace bA := bA.below v9 bA.lt
  replace b6 := b6.below v9 b6.lt
  replace b7 := b7.below v9 b7.lt
  replace b9 := b9.below v9 b9.lt
  replace hB := hB.trans (v9.mono hB.size)
  clear v9
  go_wp2_with fail
  refine ⟨HS3.out _ bA b7, ?_⟩
  refine wpLate_step rfl (fun K hK => ?_)
  go_wp2_with fail
  refine (eqActor_same a A7 At3 c7 ct3 _ y7.rd yt3.rd (by omega)).mono ?_
  rintro e w10 ⟨rfl, v10⟩
  replace yw := yw.below v10
  replace y7 := y7.below v10
  replace y8 := y8.below v10
  replace y9 := y9.below v10
  replace bA := bA.below v10 bA.lt
  replace b6 := b6.below v10 b6.lt
  replace b7 := b7.below v10 b7.lt
  replace b9 := b9.below v10 b9.lt
  replace hB := hB.trans (v10.mono hB.size)
  clear v10
  go_wp2_with fail
  refine ⟨HS3.out _ bA b7, ?_⟩
  refine wpLate_step rfl (fun K hK => ?_)
  go_wp2_with fail
  refine ⟨HS3.out _ bA b7, ?_⟩
  refine wpLate_nil (NoPanic.normal ?_)
  clear HS3
  go_wp2_with fail
  refine ((toBoolS_any cars C d _ (hc0.below hB) (by omega)).mono fun _ _ h => h.s).mono ?_
  rintro e w11 ⟨At4, ct4, rfl, yt4, v11⟩
  have lyt4 := hB.size
  have nyt4bA : ∀ b, blk At4 = some b → b ≠ w.heap.size := fun b h => by have h1 := (yt4.lt b h).1; have h2 := bA.lt; omega
  have nyt4b6 : ∀ b, blk At4 = some b → b ≠ w4.heap.size := fun b h => by have h1 := (yt4.lt b h).1; have h2 := b6.lt; omega
  have nyt4b7 : ∀ b, blk At4 = some b → b ≠ w5.heap.size := fun b h => by have h1 := (yt4.lt b h).1; have h2 := b7.lt; omega
  have nyt4b9 : ∀ b, blk At4 = some b → b ≠ w7.heap.size := fun b h => by have h1 := (yt4.lt b h).1; have h2 := b9.lt; omega
  have sywyt4 := yw.sep yt4 (Nat.le_refl _)
  have sy7yt4 := y7.sep yt4 (Nat.le_refl _)
  have sy8yt4 := y8.sep yt4 (Nat.le_refl _)
  have sy9yt4 := y9.sep yt4 (Nat.le_refl _)
  replace yw := yw.below v11
  replace y7 := y7.below v11
  replace y8 := y8.below v11
  replace y9 := y9.below v11
  replace bA := bA.below v11 bA.lt
  replace b6 := b6.below v11 b6.lt
  replace b7 := b7.below v11 b7.lt
  replace b9 := b9.below v11 b9.lt
  replace hB := hB.trans (v11.mono hB.size)
  clear v11
  go_wp2_with fail
  refine (eqBoolS_same cars A8 At4 c8 ct4 _ y8.rd yt4.rd (by omega)).mono ?_
  rintro e w12 ⟨rfl, v12⟩
  replace yw := yw.below v12
  replace y7 := y7.below v12
  replace y8 := y8.below v12
  replace y9 := y9.below v12
  replace yt4 := yt4.below v12
  replace bA := bA.below v12 bA.lt
  replace b6 := b6.below v12 b6.lt
  replace b7 := b7.below v12 b7.lt
  replace b9 := b9.below v12 b9.lt
  replace hB := hB.trans (v12.mono hB.size)
  clear v12
  clear yt4
  obtain ⟨b70, b71, b72, b73, b74, b75⟩ := loadT b7
  have b7l := b7.lt
  go_wp2_with fail
  refine (markActor_any a A7 c7 _ 1 _ y7 (by omega) (by omega) (by omega)).mono ?_
  rintro e w13 ⟨rfl, m13, gm13⟩
  replace hB := below_mark hB y7.lt ly7 gm13
  replace yw := yw.grown gm13 sywy7.symm.or
  replace y8 := y8.grown gm13 sy7y8.or
  replace y9 := y9.grown gm13 sy7y9.or
  replace bA := bA.grown gm13 (fun e => ny7bA _ e.symm rfl)
  replace b6 := b6.grown gm13 (fun e => ny7b6 _ e.symm rfl)
  replace b7 := b7.grown gm13 (fun e => ny7b7 _ e.symm rfl)
  replace b9 := b9.grown gm13 (fun e => ny7b9 _ e.symm rfl)
  clear b70 b71 b72 b73 b74 b75 b7l
  clear gm13 y7
  clear m13
  go_wp2_with fail
  refine (markBoolS_any cars A8 c8 _ (1 + (a.wa.length : Int)) _ y8 (by omega) (by omega) (by omega)).mono ?_
  rintro e w14 ⟨rfl, m14, gm14⟩
  replace hB := below_mark hB y8.lt ly8 gm14
  replace yw := yw.grown gm14 sywy8.symm.or
  replace y9 := y9.grown gm14 sy8y9.or
  replace bA := bA.grown gm14 (fun e => ny8bA _ e.symm rfl)
  replace b6 := b6.grown gm14 (fun e => ny8b6 _ e.symm rfl)
  replace b7 := b7.grown gm14 (fun e => ny8b7 _ e.symm rfl)
  replace b9 := b9.grown gm14 (fun e => ny8b9 _ e.symm rfl)
  clear gm14 y8
  clear m14
  obtain ⟨b90, b91, b92, b93, b94, b95⟩ := loadT b9
  have b9l := b9.lt
  obtain ⟨b60, b61, b62, b63, b64, b65⟩ := loadT b6
  have b6l := b6.lt
  go_wp2_with fail
  refine (eqActor_same (stepG a cars) A9 Aw c9 cw _ y9.rd yw.rd (by omega)).mono ?_
  rintro e w15 ⟨rfl, v15⟩
  replace yw := yw.below v15
  replace y9 := y9.below v15
  replace bA := bA.below v15 bA.lt
  replace b6 := b6.below v15 b6.lt
  replace b7 := b7.below v15 b7.lt
  replace b9 := b9.below v15 b9.lt
  replace hB := hB.trans (v15.mono hB.size)
  clear v15
  clear b90 b91 b92 b93 b94 b95 b9l b60 b61 b62 b63 b64 b65 b6l
  obtain ⟨b90, b91, b92, b93, b94, b95⟩ := loadT b9
  have b9l := b9.lt
  go_wp2_with fail
  refine (markActor_any (stepG a cars) A9 c9 _ 1 _ y9 (by omega) (by omega) (by omega)).mono ?_
  rintro e w16 ⟨rfl, m16, gm16⟩
  replace hB := below_mark hB y9.lt ly9 gm16
  replace yw := yw.grown gm16 sywy9.symm.or
  replace bA := bA.grown gm16 (fun e => ny9bA _ e.symm rfl)
  replace b6 := b6.grown gm16 (fun e => ny9b6 _ e.symm rfl)
  replace b7 := b7.grown gm16 (fun e => ny9b7 _ e.symm rfl)
  replace b9 := b9.grown gm16 (fun e => ny9b9 _ e.symm rfl)
  clear b90 b91 b92 b93 b94 b95 b9l
  clear gm16 y9
  have y9 := m16
  clear m16
  obtain ⟨b90, b91, b92, b93, b94, b95⟩ := loadT b9
  have b9l := b9.lt
  go_wp2_with fail
  refine (heldActor_any (stepG a cars) A9 c9 1 _ y9.rd (by omega) (by omega) (by omega)).mono ?_
  rintro e w17 ⟨rfl, v17⟩
  replace yw := yw.below v17
  replace y9 := y9.below v17
  replace bA := bA.below v17 bA.lt
  replace b6 := b6.below v17 b6.lt
  replace b7 := b7.below v17 b7.lt
  replace b9 := b9.below v17 b9.lt
  replace hB := hB.trans (v17.mono hB.size)
  clear v17
  clear b90 b91 b92 b93 b94 b95 b9l
  obtain ⟨bA0, bA1, bA2, bA3, bA4, bA5⟩ := loadT bA
  have bAl := bA.lt
  go_wp2_with fail
  refine (toActor_any a A c _ (hr0.below hB) hlen).mono ?_
  rintro e w18 ⟨At5, ct5, rfl, yt5, v18⟩
  have lyt5 := hB.size
  have nyt5bA : ∀ b, blk At5 = some b → b ≠ w.heap.size := fun b h => by have h1 := (yt5.lt b h).1; have h2 := bA.lt; omega
  have nyt5b6 : ∀ b, blk At5 = some b → b ≠ w4.heap.size := fun b h => by have h1 := (yt5.lt b h).1; have h2 := b6.lt; omega
  have nyt5b7 : ∀ b, blk At5 = some b → b ≠ w5.heap.size := fun b h => by have h1 := (yt5.lt b h).1; have h2 := b7.lt; omega
  have nyt5b9 : ∀ b, blk At5 = some b → b ≠ w7.heap.size := fun b h => by have h1 := (yt5.lt b h).1; have h2 := b9.lt; omega
  have sywyt5 := yw.sep yt5 (Nat.le_refl _)
  have sy9yt5 := y9.sep yt5 (Nat.le_refl _)
  replace yw := yw.below v18
  replace y9 := y9.below v18
  replace bA := bA.below v18 bA.lt
  replace b6 := b6.below v18 b6.lt
  replace b7 := b7.below v18 b7.lt
  replace b9 := b9.below v18 b9.lt
  replace hB := hB.trans (v18.mono hB.size)
  clear v18
  clear bA0 bA1 bA2 bA3 bA4 bA5 bAl
  go_wp2_with fail
  refine ((toBoolS_any cars C d _ (hc0.below hB) (by omega)).mono fun _ _ h => h.s).mono ?_
  rintro e w19 ⟨At6, ct6, rfl, yt6, v19⟩
  have lyt6 := hB.size
  have nyt6bA : ∀ b, blk At6 = some b → b ≠ w.heap.size := fun b h => by have h1 := (yt6.lt b h).1; have h2 := bA.lt; omega
  have nyt6b6 : ∀ b, blk At6 = some b → b ≠ w4.heap.size := fun b h => by have h1 := (yt6.lt b h).1; have h2 := b6.lt; omega
  have nyt6b7 : ∀ b, blk At6 = some b → b ≠ w5.heap.size := fun b h => by have h1 := (yt6.lt b h).1; have h2 := b7.lt; omega
  have nyt6b9 : ∀ b, blk At6 = some b → b ≠ w7.heap.size := fun b h => by have h1 := (yt6.lt b h).1; have h2 := b9.lt; omega
  have sywyt6 := yw.sep yt6 (Nat.le_refl _)
  have sy9yt6 := y9.sep yt6 (Nat.le_refl _)
  have syt5yt6 := yt5.sep yt6 (Nat.le_refl _)
  replace yw := yw.below v19
  replace y9 := y9.below v19
  replace yt5 := yt5.below v19
  replace bA := bA.below v19 bA.lt
  replace b6 := b6.below v19 b6.lt
  replace b7 := b7.below v19 b7.lt
  replace b9 := b9.below v19 b9.lt
  replace hB := hB.trans (v19.mono hB.size)
  clear v19
  go_wp2_with fail
  refine (iStepG_any a cars At5 At6 ct5 ct6 _ yt5.rd yt6.rd).mono ?_
  rintro e w20 ⟨Ah, ch, rfl, yh, v20⟩
  have lyh := hB.size
  have nyhbA : ∀ b, blk Ah = some b → b ≠ w.heap.size := fun b h => by have h1 := (yh.lt b h).1; have h2 := bA.lt; omega
  have nyhb6 : ∀ b, blk Ah = some b → b ≠ w4.heap.size := fun b h => by have h1 := (yh.lt b h).1; have h2 := b6.lt; omega
  have nyhb7 : ∀ b, blk Ah = some b → b ≠ w5.heap.size := fun b h => by have h1 := (yh.lt b h).1; have h2 := b7.lt; omega
  have nyhb9 : ∀ b, blk Ah = some b → b ≠ w7.heap.size := fun b h => by have h1 := (yh.lt b h).1; have h2 := b9.lt; omega
  have sywyh := yw.sep yh (Nat.le_refl _)
  have sy9yh := y9.sep yh (Nat.le_refl _)
  have syt5yh := yt5.sep yh (Nat.le_refl _)
  have syt6yh := yt6.sep yh (Nat.le_refl _)
  replace yw := yw.below v20
  replace y9 := y9.below v20
  replace yt5 := yt5.below v20
  replace yt6 := yt6.below v20
  replace bA := bA.below v20 bA.lt
  replace b6 := b6.below v20 b6.lt
  replace b7 := b7.below v20 b7.lt
  replace b9 := b9.below v20 b9.lt
  replace hB := hB.trans (v20.mono hB.size)
  clear v20
  clear yt5 yt6
  obtain ⟨b60, b61, b62, b63, b64, b65⟩ := loadT b6
  have b6l := b6.lt
  go_wp2_with fail
  have nywbh : ∀ b, blk Aw = some b → b ≠ w20.heap.size := fun b h => by have h1 := (yw.lt b h).2; omega
  have ny9bh : ∀ b, blk A9 = some b → b ≠ w20.heap.size := fun b h => by have h1 := (y9.lt b h).2; omega
  have nyhbh : ∀ b, blk Ah = some b → b ≠ w20.heap.size := fun b h => by have h1 := (yh.lt b h).2; omega
  have bh := Blk.new w20 27 (acC (stepG a cars) Ah ch)
  replace yw := yw.alloc (.cells (acC (stepG a cars) Ah ch) 27)
  replace y9 := y9.alloc (.cells (acC (stepG a cars) Ah ch) 27)
  replace yh := yh.alloc (.cells (acC (stepG a cars) Ah ch) 27)
  replace bA := bA.alloc (.cells (acC (stepG a cars) Ah ch) 27)
  replace b6 := b6.alloc (.cells (acC (stepG a cars) Ah ch) 27)
  replace b7 := b7.alloc (.cells (acC (stepG a cars) Ah ch) 27)
  replace b9 := b9.alloc (.cells (acC (stepG a cars) Ah ch) 27)
  replace hB := hB.alloc hB.size (.cells (acC (stepG a cars) Ah ch) 27)
  generalize w20.alloc (.cells (acC (stepG a cars) Ah ch) 27) = w20b at *
  refine (eqActor_same (stepG a cars) Ah Aw ch cw _ yh.rd yw.rd (by omega)).mono ?_
  rintro e w21 ⟨rfl, v21⟩
  replace yw := yw.below v21
  replace y9 := y9.below v21
  replace yh := yh.below v21
  replace bA := bA.below v21 bA.lt
  replace b6 := b6.below v21 b6.lt
  replace b7 := b7.below v21 b7.lt
  replace b9 := b9.below v21 b9.lt
  replace bh := bh.below v21 bh.lt
  replace hB := hB.trans (v21.mono hB.size)
  clear v21
  clear b60 b61 b62 b63 b64 b65 b6l
  obtain ⟨b90, b91, b92, b93, b94, b95⟩ := loadT b9
  have b9l := b9.lt
  go_wp2_with fail
  refine (heldActor_any (stepG a cars) A9 c9 1 _ y9.rd (by omega) (by omega) (by omega)).mono ?_
  rintro e w22 ⟨rfl, v22⟩
  replace yw := yw.below v22
  replace y9 := y9.below v22
  replace yh := yh.below v22
  replace bA := bA.below v22 bA.lt
  replace b6 := b6.below v22 b6.lt
  replace b7 := b7.below v22 b7.lt
  replace b9 := b9.below v22 b9.lt
  replace bh := bh.below v22 bh.lt
  replace hB := hB.trans (v22.mono hB.size)
  clear v22
  clear b90 b91 b92 b93 b94 b95 b9l
  go_wp2_with fail
  go_ret
  exact ⟨rfl, hB⟩

set_option maxRecDepth 100000 in
theorem lifted (os : Os) (started : os.Started) (H : Type) (enc : TypeId × Value → H) :
    ReturnsInHanded {} Try.checked os 12 .any (Rows.fnExactStepActorSpec.pre6 enc Try.prog Try.f12 Rows.fnExactStepActorRow.domain false) (Rows.fnExactStepActorSpec.post enc Try.prog Try.f12 false true false false) := by
  refine returnsInHanded_of_change (C := Try.checked) own started (by kernel_rfl) Try.func12
    (ChangeSpec.witness6 (enc := enc) (C := Try.checked) false ⟨#[], #[.agg #[.int .i64 0, .int .i64 0, .int .i64 0, .int .i64 0, .int .i64 0, .slice none 0 0], .slice none 0 0], []⟩ 8 (by kernel_rfl) (by kernel_rfl) (by kernel_rfl) (by kernel_rfl)) ?_
  intro W base args ds gs before hval0 hW hcnd _
  have hval : ∀ (j : Nat) t v, Try.f12.params[j]? = some t → args[j]? = some v → Value.okWide Try.prog W .any base t v := hval0
  have hW' := hW
  obtain ⟨p, q, hA0, hV, rfl, hfz, hnd⟩ := hW
  have hA : DataW.TrodAll enc Try.prog W 0 (fun _ => true) true Try.f12.params.toList args.toList ds p := hA0
  rw [Try.params12] at hA hval
  obtain ⟨v0, vs0, d0, ds0, p0, q0, hargs, rfl, rfl, h0, r0⟩ := trodAll_cons hA
  obtain ⟨v1, vs1, d1, ds1, p1, q1, rfl, rfl, rfl, h1, r1⟩ := trodAll_cons r0
  obtain ⟨rfl, rfl, rfl⟩ := trodAll_nil r1
  obtain rfl : args = #[v0, v1] := by cases args; simp_all
  obtain ⟨rfl, rfl⟩ := trodVars_none hV
  have k0 := h0
  have lt0 : ∀ x ∈ p0, x.block < W.heap.size := by obtain ⟨m, hm⟩ := k0; exact DataW.trod_lt m _ _ _ hm
  obtain ⟨cs0, n0, rfl, hcl0, hf0⟩ := open_struct Try.underlying24 (by kernel_rfl) (by kernel_rfl) (hval 0 24 v0 rfl rfl) h0
  obtain ⟨u0_0, y0_0, e0_0, t0_0⟩ := hf0 0 _ rfl
  obtain ⟨x0_0, rfl, w0_0⟩ := open_intF Try.underlying3 t0_0
  obtain ⟨u0_1, y0_1, e0_1, t0_1⟩ := hf0 1 _ rfl
  obtain ⟨x0_1, rfl, w0_1⟩ := open_intF Try.underlying3 t0_1
  obtain ⟨u0_2, y0_2, e0_2, t0_2⟩ := hf0 2 _ rfl
  obtain ⟨x0_2, rfl, w0_2⟩ := open_intF Try.underlying3 t0_2
  obtain ⟨u0_3, y0_3, e0_3, t0_3⟩ := hf0 3 _ rfl
  obtain ⟨x0_3, rfl, w0_3⟩ := open_intF Try.underlying3 t0_3
  obtain ⟨u0_4, y0_4, e0_4, t0_4⟩ := hf0 4 _ rfl
  obtain ⟨x0_4, rfl, w0_4⟩ := open_intF Try.underlying3 t0_4
  obtain ⟨u0_5, y0_5, e0_5, t0_5⟩ := hf0 5 _ rfl
  obtain ⟨A0_5, c0_5, z0_5, rfl, r0_5, l0_5, m0_5⟩ := open_boolsF Try.underlying22 Try.underlying4 (by kernel_rfl) t0_5
  obtain rfl : cs0 = [.int .i64 x0_0, .int .i64 x0_1, .int .i64 x0_2, .int .i64 x0_3, .int .i64 x0_4, .slice A0_5 z0_5.length c0_5] := list_6 hcl0 e0_0 e0_1 e0_2 e0_3 e0_4 e0_5
  have k1 := h1
  have lt1 : ∀ x ∈ p1, x.block < W.heap.size := by obtain ⟨m, hm⟩ := k1; exact DataW.trod_lt m _ _ _ hm
  obtain ⟨a1, len1, cap1, rfl⟩ := okWide_slice Try.underlying22 (hval 1 22 v1 rfl rfl)
  obtain ⟨z1, rfl, w1, hc1, wf1⟩ := open_boolsAt Try.underlying22 Try.underlying4 (by kernel_rfl) h1
  clear hA0 hval0
  refine (walk ⟨x0_0, x0_1, x0_2, x0_3, x0_4, z0_5⟩ A0_5 c0_5 a1 cap1 z1 W r0_5 (Nat.le_trans l0_5 m0_5) w1).mono fun e W' ⟨he, bel⟩ => ?_
  subst he
  exact ⟨_, rfl, _, _, _, [], _, [], hW', trodAll_mk1 (shut_bool Try.underlying4 _), (trodAll_cons_mk (Below.trod laidOut (by kernel_rfl) (of_decide_eq_true (by kernel_rfl)) k0 bel lt0) (trodAll_cons_mk (Below.trod laidOut (by kernel_rfl) (of_decide_eq_true (by kernel_rfl)) k1 bel lt1) trodAll_mk0)), rfl, bel.frame _, fun h => by cases h⟩

theorem over : Rows.fnExactStepActorRow.holds Try.pinned (OpenSpec.ofChange Rows.fnExactStepActorSpec) :=
  OpenClaim.holds_of_wide 12 Try.f12 rfl rfl rfl rfl rfl rfl rfl ⟨rfl, rfl, rfl, rfl, rfl⟩ rfl rfl rfl rfl rfl (by kernel_rfl) Try.func12 (by kernel_rfl)
    (of_decide_eq_true (by kernel_rfl)) (by unfold Func.isWrapper; first | (rw [if_pos (by decide +kernel)]; kernel_rfl) | (rw [if_neg (by decide +kernel)]; exact ⟨rfl, rfl⟩))
    (fun os started H enc _ => lifted os started H enc)

theorem proved : Rows.FnExactStepActorSaid := over
end Go.Proofs.Ytoadkefajobgnaa.FnExactStepActor
