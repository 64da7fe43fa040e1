/- gessolaw10.RunsCanvases: its walk. -/
import Derived.Test.YtneajhldmecllaaCvLen
namespace Go.Proofs.Ytneajhldmecllaa
open Go.RowKit

def cvΦ (x y x2 y2 : Int) (s1 s2 : Value) (A B : List (List Col)) : Nat → Value → World → Nat → Nat → Prop
  | 0, v, _, _, _ => v = canV x y s1
  | 1, v, W, lo, hi => OwnΦ x y A v W lo hi
  | 2, v, _, _, _ => v = canV x2 y2 s2
  | 3, v, W, lo, hi => OwnΦ x2 y2 B v W lo hi
  | 4, v, W, lo, hi => VarΦ zCan 43 v W lo hi
  | 5, v, W, lo, hi => VarΦ zCan 43 v W lo hi
  | _, _, _, _, _ => True
theorem cvΦ_stable (w0 : World) (x y x2 y2 : Int) (s1 s2 : Value) (A B : List (List Col)) : RGst 6 w0 [] (cvΦ x y x2 y2 s1 s2 A B) where
  own := by
    intro i v w w' lo hi _ _ h _ hh hb
    unfold cvΦ at h ⊢
    split <;> first
      | exact h
      | exact OwnΦ.kb h hh hb
      | exact VarΦ.kb h hh hb
      | trivial
  all := by
    intro i v w w' lo hi _ h hh hb
    unfold cvΦ at h ⊢
    split <;> first
      | exact h
      | exact OwnΦ.below h hh hb
      | exact VarΦ.below h hh hb
      | trivial

set_option maxRecDepth 100000 in
set_option maxHeartbeats 4000000 in
theorem law_canvases (x y x2 y2 : Int) (v1 v2 zv : Value) (L1 L2 : List (List Col)) (z : List UInt8) (w : World) (h1 : Tiles w v1 L1) (h2 : Tiles w v2 L2) (h3 : Bytes w zv z) :
    Calls Try.prog 6 #[canV x y v1, canV x2 y2 v2, zv] w fun e w' => e = .returned (.bool true) ∧ Below w.heap.size w w' := by
  obtain ⟨a1, c1, rfl, hc1, hm1⟩ := h1.slice
  obtain ⟨a2, c2, rfl, hc2, hm2⟩ := h2.slice
  have h3' := h3
  obtain ⟨az, cz, rfl, hcz, hmz, _⟩ := h3'
  unfold maxLen at hmz
  obtain ⟨A, hA⟩ : ∃ A, L1.take 17 = A := ⟨_, rfl⟩
  obtain ⟨B, hB⟩ : ∃ B, L2.take 17 = B := ⟨_, rfl⟩
  have hA17 : A.length ≤ 17 := by rw [← hA]; simp; omega
  have hB17 : B.length ≤ 17 := by rw [← hB]; simp; omega
  have rA := r_own x y (.slice a1 L1.length c1) L1
  have rB := r_own x2 y2 (.slice a2 L2.length c2) L2
  rw [hA] at rA
  rw [hB] at rB
  have RA := Lib.hid rA
  have RB := Lib.hid rB
  have HA := Lib.hid hA
  have HB := Lib.hid hB
  clear hA hB rA rB
  have hB2 : Below w.heap.size w ((w.alloc (.cells #[.int .i64 x, .int .i64 y, .slice a1 L1.length c1] 43)).alloc (.cells #[.int .i64 x2, .int .i64 y2, .slice a2 L2.length c2] 43)) := by repeat (first | assumption | exact Below.refl _ _ | refine below_dN ?_ _ | refine Below.alloc ?_ (by first | exact Nat.le_refl _ | omega | (simp; done) | (simp; omega)) _ | refine Below.setCell ?_ (by first | exact Nat.le_refl _ | omega | (simp; done) | (simp; omega)) _ | refine Below.drew ?_ | refine Below.trans ?_ (Below.mono (by assumption) (by first | exact Nat.le_refl _ | omega | (simp; done) | (simp; omega))))
  have kx := (Blk.new w #[.int .i64 x, .int .i64 y, .slice a1 L1.length c1] 43).alloc (.cells #[.int .i64 x2, .int .i64 y2, .slice a2 L2.length c2] 43)
  have ky := Blk.new (w.alloc (.cells #[.int .i64 x, .int .i64 y, .slice a1 L1.length c1] 43)) #[.int .i64 x2, .int .i64 y2, .slice a2 L2.length c2] 43
  simp only [World.size_alloc] at ky
  have I0 : CvInv w ((w.alloc (.cells #[.int .i64 x, .int .i64 y, .slice a1 L1.length c1] 43)).alloc (.cells #[.int .i64 x2, .int .i64 y2, .slice a2 L2.length c2] 43)) x y x2 y2 (.slice a1 L1.length c1) (.slice a2 L2.length c2) (.slice az z.length cz) L1 L2 z w.heap.size (w.heap.size + 1) (.slice a1 L1.length c1) (.slice a2 L2.length c2) L1 L2 :=
    ⟨hB2, kx, ky, h1.below hB2, h2.below hB2, h3.below hB2, kx, ky, h1.below hB2, h2.below hB2⟩
  clear kx ky hB2 h1 h2 h3
  go_enter Try.func6, Try.ntmps6
  go_wp2_with fail
  refine (wakes_any _).mono ?_
  rintro e W1 ⟨rfl, hB1⟩
  have I1 := I0.below hB1
  clear I0 hB1
  go_upto_region 3 with fail
  refine gen_code (fun W => CvInv w W x y x2 y2 (.slice a1 L1.length c1) (.slice a2 L2.length c2) (.slice az z.length cz) L1 L2 z w.heap.size (w.heap.size + 1) (.slice a1 L1.length c1) (.slice a2 L2.length c2) L1 L2) I1 ?_
  clear I1
  intro W2 I2
  have hW2d : Below W2.heap.size W2 W2.drew := (Below.refl _ W2).drew
  refine wp_region_rg 6 [] (fun _ => []) [] (cvΦ x y x2 y2 (.slice a1 L1.length c1) (.slice a2 L2.length c2) A B) (by kernel_rfl) (fun _ _ d _ _ h => by cases d <;> exact h) (by kernel_rfl) (cvΦ_stable _ x y x2 y2 _ _ _ _) ?hop ?hend
  case hop =>
    show rgAll _ 0 [_, _, _, _, _, _]
    refine rgAll_cons (rg_n fun on a W vs lo hi hR hF hp => ?_) (rgAll_cons (rg_n fun on a W vs lo hi hR hF hp => ?_) (rgAll_cons (rg_n fun on a W vs lo hi hR hF hp => ?_) (rgAll_cons (rg_n fun on a W vs lo hi hR hF hp => ?_) (rgAll_cons (rg_n fun on a W vs lo hi hR hF hp => ?_) (rgAll_cons (rg_n fun on a W vs lo hi hR hF hp => ?_) rgAll_nil)))))
    · exact rg_load_can (hF.tmp0 3 rfl) (Blk.up I2.kx (Below.up hW2d hR.bel)) rfl
    · exact rg_call1 ((hF.tmp 0 (by decide) (hp 0 (memB rfl)) rfl rfl rfl).trans (hR.fact 0 rfl (hp 0 (memB rfl)) rfl)) (fun v w => by kernel_rfl) (RA.out W (I2.tA.below (Below.up hW2d hR.bel)))
    · exact rg_load_can (hF.tmp0 4 rfl) (Blk.up I2.ky (Below.up hW2d hR.bel)) rfl
    · exact rg_call1 ((hF.tmp 2 (by decide) (hp 2 (memB rfl)) rfl rfl rfl).trans (hR.fact 2 rfl (hp 2 (memB rfl)) rfl)) (fun v w => by kernel_rfl) (RB.out W (I2.tB.below (Below.up hW2d hR.bel)))
    all_goals
      exact rg_var (zeroCan W)
  case hend =>
    intro W vs lo hi hR
    have e0 : vs 0 = canV x y (.slice a1 L1.length c1) := hR.fact 0 rfl rfl rfl
    have e2 : vs 2 = canV x2 y2 (.slice a2 L2.length c2) := hR.fact 2 rfl rfl rfl
    obtain ⟨aA, cA, e1, oA1, oA2, lA⟩ : OwnΦ x y A (vs 1) W (lo 1) (hi 1) := hR.fact 1 rfl rfl rfl
    have oA : OwnT (lo 1) W (.slice aA A.length cA) A := ⟨oA1, oA2⟩
    obtain ⟨aB, cB, e3, oB1, oB2, lB⟩ : OwnΦ x2 y2 B (vs 3) W (lo 3) (hi 3) := hR.fact 3 rfl rfl rfl
    have oB : OwnT (lo 3) W (.slice aB B.length cB) B := ⟨oB1, oB2⟩
    obtain ⟨b7, e4, g4, g4', k7⟩ : VarΦ zCan 43 (vs 4) W (lo 4) (hi 4) := hR.fact 4 rfl rfl rfl
    obtain ⟨b8, e5, g5, g5', k8⟩ : VarΦ zCan 43 (vs 5) W (lo 5) (hi 5) := hR.fact 5 rfl rfl rfl
    clear oA1 oA2 oB1 oB2
    have n78 : b7 ≠ b8 := apart_ne (hR.apart 4 5 (by decide) (by decide) rfl rfl (by decide)) ⟨g4, g4'⟩ ⟨g5, g5'⟩
    have mA7 : (Value.slice aA A.length cA).ownBlock ≠ some b7 := fun h => apart_ne (hR.apart 1 4 (by decide) (by decide) rfl rfl (by decide)) ⟨(oA.ltB h).1, lA b7 h⟩ ⟨g4, g4'⟩ rfl
    have mA8 : (Value.slice aA A.length cA).ownBlock ≠ some b8 := fun h => apart_ne (hR.apart 1 5 (by decide) (by decide) rfl rfl (by decide)) ⟨(oA.ltB h).1, lA b8 h⟩ ⟨g5, g5'⟩ rfl
    have mB7 : (Value.slice aB B.length cB).ownBlock ≠ some b7 := fun h => apart_ne (hR.apart 3 4 (by decide) (by decide) rfl rfl (by decide)) ⟨(oB.ltB h).1, lB b7 h⟩ ⟨g4, g4'⟩ rfl
    have mB8 : (Value.slice aB B.length cB).ownBlock ≠ some b8 := fun h => apart_ne (hR.apart 3 5 (by decide) (by decide) rfl rfl (by decide)) ⟨(oB.ltB h).1, lB b8 h⟩ ⟨g5, g5'⟩ rfl
    have z4 := (hR.bnd 4 (by decide) rfl).1
    have z5 := (hR.bnd 5 (by decide) rfl).1
    have z0 : W2.heap.size ≤ W2.drew.heap.size := Nat.le_refl _
    have hw2 : w.heap.size + 2 ≤ W2.heap.size := I2.ky.lt
    have hb7 : W2.heap.size ≤ b7 := Nat.le_trans z0 (Nat.le_trans z4 g4)
    have hb8 : W2.heap.size ≤ b8 := Nat.le_trans z0 (Nat.le_trans z5 g5)
    have hB3 : Below W2.heap.size W2 ((W.setRow b7 #[.int .i64 x, .int .i64 y, .slice aA A.length cA]).setRow b8 #[.int .i64 x2, .int .i64 y2, .slice aB B.length cB]) := Below.setRow (Below.setRow (Below.up hW2d hR.bel) hb7 _) hb8 _
    have I3 : CvInv w ((W.setRow b7 #[.int .i64 x, .int .i64 y, .slice aA A.length cA]).setRow b8 #[.int .i64 x2, .int .i64 y2, .slice aB B.length cB]) x y x2 y2 (.slice a1 L1.length c1) (.slice a2 L2.length c2) (.slice az z.length cz) L1 L2 z b7 b8 (.slice aA A.length cA) (.slice aB B.length cB) A B :=
      ⟨Below.up I2.bel hB3, Blk.up I2.kx hB3, Blk.up I2.ky hB3, I2.tx.below hB3, I2.ty.below hB3, I2.bz.below hB3, Blk.setRowO (Blk.setRow k7) _ n78.symm, Blk.setRow (Blk.setRowO k8 _ n78), ((oA.setRowO _ mA7).setRowO _ mA8).tiles, ((oB.setRowO _ mB7).setRowO _ mB8).tiles⟩
    have k8' := Blk.setRowO k8 #[.int .i64 x, .int .i64 y, .slice aA A.length cA] n78
    have hb7' : w.heap.size + 2 ≤ b7 := Nat.le_trans hw2 hb7
    have hb8' : w.heap.size + 2 ≤ b8 := Nat.le_trans hw2 hb8
    clear n78 mA7 mA8 mB7 mB8 z4 z5 z0 g4 g4' g5 g5' oA oB lA lB hR I2 hW2d k8 hB3 hb7 hb8 hw2 RA RB
    show wpList _ _ _ [_, _] ((((((Act.put ⟨_, _⟩ (some 28) (vs 0)).put (some 29) (vs 1)).put (some 30) (vs 2)).put (some 31) (vs 3)).put (some 7) (vs 4)).put (some 8) (vs 5)) W
    rw [e0, e1, e2, e3, e4, e5]
    clear e0 e1 e2 e3 e4 e5
    simp only [Act.put, List.setIfInBounds_toArray, List.set_cons_succ, List.set_cons_zero]
    go_upto_region 4 with (first | refine wl_store_can rfl rfl rfl k7 ?_ | refine wl_store_can rfl rfl rfl k8' ?_)
    refine gen_code (fun W => CvInv w W x y x2 y2 (.slice a1 L1.length c1) (.slice a2 L2.length c2) (.slice az z.length cz) L1 L2 z b7 b8 (.slice aA A.length cA) (.slice aB B.length cB) A B) I3 ?_
    clear I3 k7 k8'
    intro W4 I4
    simp only [Act.put]
    obtain ⟨ra, hra⟩ : ∃ r, canOk x y A.length = r := ⟨_, rfl⟩
    obtain ⟨rb, hrb⟩ : ∃ r, canOk x2 y2 B.length = r := ⟨_, rfl⟩
    have HRA := Lib.hid hra
    have HRB := Lib.hid hrb
    clear hra hrb
    go_cut [9, 10] (fun s9 s10 wx => s9 = .bool ra ∧ s10 = .bool (ra && rb) ∧ Below W4.heap.size W4 wx)
    case first =>
      have hW4d : Below W4.heap.size W4 W4.drew := (Below.refl _ W4).drew
      refine wp_region_segs 9 [.q [0, 2], .e 1, .e 3, .q [4, 5], .e 6, .q [7, 8]] (fun w'' => Below W4.heap.size W4 w'') (by kernel_rfl) (by kernel_rfl) (fun _ _ d _ _ h => by cases d <;> exact h) ?_
      refine ⟨hW4d, ?_⟩
      show wpQuiet _ _ _ _ [_, _] _
      repeat (first | go_big_quiet_step ((intros; rfl)) | quiet_step ((intros; rfl)) | (refine wq_load_blk _ rfl rfl (fun w'' hC => Blk.up I4.k7 hC) Try.underlying43 rfl (by kernel_rfl) ?_; simp only [Act.put, List.setIfInBounds_toArray, List.set_cons_succ, List.set_cons_zero]) | (refine wq_loadB rfl rfl (by kernel_rfl) (by assumption) ?_; simp only [Act.put, List.setIfInBounds_toArray, List.set_cons_succ, List.set_cons_zero]))
      refine wpQuiet_nil ?_
      show wpList _ _ _ [_] _ _
      go_wp2_with fail
      refine (c_right x y _ _ _ ra _ HRA.out).mono ?_
      rintro e W5 ⟨rfl, hB5⟩
      have u5 := Below.up hW4d hB5
      go_wp2
      refine ⟨u5, ?_⟩
      show wpList _ _ _ [_] _ _
      go_wp2_with fail
      refine (c_right x y _ _ _ ra _ HRA.out).mono ?_
      rintro e W6 ⟨rfl, hB6⟩
      have u6 := Below.up u5 hB6
      go_wp2
      refine ⟨u6, ?_⟩
      refine ⟨u6, ?_⟩
      show wpQuiet _ _ _ _ [_, _] _
      cases ra with
      | false =>
        repeat (first | go_big_quiet_step ((intros; rfl)) | quiet_step ((intros; rfl)) | (refine wq_load_blk _ rfl rfl (fun w'' hC => Blk.up I4.k8 hC) Try.underlying43 rfl (by kernel_rfl) ?_; simp only [Act.put, List.setIfInBounds_toArray, List.set_cons_succ, List.set_cons_zero]) | (refine wq_loadB rfl rfl (by kernel_rfl) (by assumption) ?_; simp only [Act.put, List.setIfInBounds_toArray, List.set_cons_succ, List.set_cons_zero]))
        refine wpQuiet_nil ?_
        show wpList _ _ _ [_] _ _
        go_wp2
        refine ⟨u6, ?_⟩
        refine ⟨u6, ?_⟩
        show wpQuiet _ _ _ _ [_, _] _
        repeat (first | go_big_quiet_step ((intros; rfl)) | quiet_step ((intros; rfl)) | fail | (refine wq_loadB rfl rfl (by kernel_rfl) (by assumption) ?_; simp only [Act.put, List.setIfInBounds_toArray, List.set_cons_succ, List.set_cons_zero]))
        refine wpQuiet_nil ?_
        show wpList _ _ _ [_] _ _
        go_wp2
        go_meet
        case rel => exact ⟨rfl, rfl, u6⟩
      | true =>
        repeat (first | go_big_quiet_step ((intros; rfl)) | quiet_step ((intros; rfl)) | (refine wq_load_blk _ rfl rfl (fun w'' hC => Blk.up I4.k8 hC) Try.underlying43 rfl (by kernel_rfl) ?_; simp only [Act.put, List.setIfInBounds_toArray, List.set_cons_succ, List.set_cons_zero]) | (refine wq_loadB rfl rfl (by kernel_rfl) (by assumption) ?_; simp only [Act.put, List.setIfInBounds_toArray, List.set_cons_succ, List.set_cons_zero]))
        refine wpQuiet_nil ?_
        show wpList _ _ _ [_] _ _
        go_wp2_with fail
        refine (c_right x2 y2 _ _ _ rb _ HRB.out).mono ?_
        rintro e W7 ⟨rfl, hB7⟩
        have u7 := Below.up u6 hB7
        go_wp2
        refine ⟨u7, ?_⟩
        refine ⟨u7, ?_⟩
        show wpQuiet _ _ _ _ [_, _] _
        repeat (first | go_big_quiet_step ((intros; rfl)) | quiet_step ((intros; rfl)) | fail | (refine wq_loadB rfl rfl (by kernel_rfl) (by assumption) ?_; simp only [Act.put, List.setIfInBounds_toArray, List.set_cons_succ, List.set_cons_zero]))
        refine wpQuiet_nil ?_
        show wpList _ _ _ [_] _ _
        go_wp2
        go_meet
        case rel => exact ⟨rfl, rfl, u7⟩
    case rest =>
      obtain ⟨rfl, rfl, hBc⟩ := hcut
      have I5 := I4.below hBc
      clear I4 hBc
      obtain ⟨rab, hrab⟩ : ∃ r, (ra && rb) = r := ⟨_, rfl⟩
      rw [hrab]
      have HRAB := Lib.hid hrab
      clear hrab
      obtain ⟨E, hE⟩ : ∃ E, (if canOk x y A.length = true then (0 : Int) else 150) = E := ⟨_, rfl⟩
      obtain ⟨C, hC⟩ : ∃ C, (if canOk x y A.length = true then canvasB x.toNat y.toNat A else []) = C := ⟨_, rfl⟩
      obtain ⟨F, hF⟩ : ∃ F, patchNo x y x2 y2 A.length B.length = F := ⟨_, rfl⟩
      obtain ⟨D, hD⟩ : ∃ D, (if patchNo x y x2 y2 A.length B.length = 0 then patchB x.toNat y.toNat A B else []) = D := ⟨_, rfl⟩
      have hcan : ∀ W, Tiles W (.slice aA A.length cA) A → Calls Try.prog 19 #[canV x y (.slice aA A.length cA)] W fun e w' => ∃ v', e = .returned (.tuple #[v', .int .i64 E]) ∧ OwnB W.heap.size w' v' C ∧ Below W.heap.size W w' := fun W h => by
        have := canvas_any x y (.slice aA A.length cA) A W h (by omega)
        rwa [hE, hC] at this
      have hpat : ∀ W, Tiles W (.slice aA A.length cA) A → Tiles W (.slice aB B.length cB) B → Calls Try.prog 23 #[canV x y (.slice aA A.length cA), canV x2 y2 (.slice aB B.length cB)] W fun e w' => ∃ v', e = .returned (.tuple #[v', .int .i64 F]) ∧ OwnB W.heap.size w' v' D ∧ Below W.heap.size W w' := fun W h k => by
        have := patch_any x y x2 y2 (.slice aA A.length cA) (.slice aB B.length cB) A B W h k (by omega)
        rwa [hD, hF] at this
      have HE := Lib.hid hE
      have HC := Lib.hid hC
      have HF := Lib.hid hF
      have HD := Lib.hid hD
      clear hE hC hF hD
      obtain ⟨q7, r7, l7⟩ := I5.k7.all
      go_wp2_with fail
      refine (hcan _ I5.tA).mono ?_
      rintro e W6 ⟨v11, rfl, ho11, hB6⟩
      have I6 := I5.below hB6
      have h11 := ho11.bytes
      clear I5 q7 r7 l7 ho11 hB6
      obtain ⟨q7, r7, l7⟩ := I6.k7.all
      obtain ⟨q8, r8, l8⟩ := I6.k8.all
      go_wp2_with fail
      refine (hpat _ I6.tA I6.tB).mono ?_
      rintro e W7 ⟨v13, rfl, ho13, hB7⟩
      have I7 := I6.below hB7
      have h11 := h11.below hB7
      have h13 := ho13.bytes
      clear I6 q7 r7 l7 q8 r8 l8 ho13 hB7 hcan hpat
      go_upto_if 51 with fail
      go_cut [15, 17] (fun s15 s17 wx => s17 = .int .i64 E ∧ Bytes wx s15 C ∧ Below W7.heap.size W7 wx)
      case first =>
        cases ra with
        | false =>
          have hE' : E = 150 := by rw [← HE.out, HRA.out]; rfl
          have hC' : C = [] := by rw [← HC.out, HRA.out]; rfl
          subst hE' hC'
          go_wp2
          go_meet
          case rel => exact ⟨rfl, IsSl.nil _, Below.refl _ _⟩
        | true =>
          obtain ⟨xa, ya, rfl, rfl, g1, g2, g3, g4, g5⟩ := canOk_nat HRA.out
          have hE' : E = 0 := by rw [← HE.out, HRA.out]; rfl
          have hC' : C = canvasB xa ya A := by rw [← HC.out, HRA.out]; rfl
          subst hE' hC'
          obtain ⟨q7, r7, l7⟩ := I7.k7.all
          clear g5
          go_wp2_with fail
          refine (refcanvas_any xa ya _ A _ g2 g4 I7.tA (by omega)).mono ?_
          rintro e W8 ⟨v8, rfl, ho8, hB8⟩
          go_wp2
          go_meet
          case rel => exact ⟨rfl, ho8.bytes, hB8⟩
      case rest =>
        obtain ⟨rfl, h15, hBc⟩ := hcut
        have I8 := I7.below hBc
        have h11 := h11.below hBc
        have h13 := h13.below hBc
        clear I7 hBc
        obtain ⟨W8, hW8⟩ : ∃ W8, W8 = wc := ⟨_, rfl⟩
        subst hW8
        go_upto_if 54 with fail
        go_cut [16, 18] (fun s16 s18 wx => s18 = .int .i64 F ∧ Bytes wx s16 D ∧ Below W8.heap.size W8 wx)
        case first =>
          cases rab with
          | true =>
            have hab := HRAB.out
            simp only [Bool.and_eq_true] at hab
            obtain ⟨rfl, rfl⟩ := hab
            obtain ⟨xa, ya, rfl, rfl, g1, g2, g3, g4, g5⟩ := canOk_nat HRA.out
            obtain ⟨xb, yb, rfl, rfl, f1, f2, f3, f4, f5⟩ := canOk_nat HRB.out
            obtain ⟨q7, r7, l7⟩ := I8.k7.all
            obtain ⟨q8, r8, l8⟩ := I8.k8.all
            have e70 : W8.cell? ⟨b7, 0, none⟩ = some (.int .i64 xa) := I8.k7.cell 0
            have e71 : W8.cell? ⟨b7, 1, none⟩ = some (.int .i64 ya) := I8.k7.cell 1
            have e80 : W8.cell? ⟨b8, 0, none⟩ = some (.int .i64 xb) := I8.k8.cell 0
            have e81 : W8.cell? ⟨b8, 1, none⟩ = some (.int .i64 yb) := I8.k8.cell 1
            by_cases hx : xa = xb
            · subst hx
              by_cases hy : ya = yb
              · subst hy
                have hF' : F = 0 := by rw [← HF.out]; unfold patchNo; rw [HRA.out, HRB.out]; simp
                have hD' : D = patchB xa ya A B := by rw [← HD.out, HF.out, hF']; rfl
                have hle : B.length ≤ A.length := by omega
                subst hF' hD'
                clear g5 f5
                go_wp2_with fail
                refine (refpatch_any xa ya _ _ _ _ A B _ g2 g4 I8.tA I8.tB (by omega) hle).mono ?_
                rintro e W9 ⟨v9, rfl, ho9, hB9⟩
                go_wp2
                go_meet
                case rel => exact ⟨rfl, ho9.bytes, hB9⟩
              · have hq : ((ya : Int) == (yb : Int)) = false := by rw [beq_eq_false_iff_ne]; omega
                have hF' : F = 2 := by
                  rw [← HF.out]; unfold patchNo; rw [HRA.out, HRB.out]
                  simp
                  omega
                have hD' : D = [] := by rw [← HD.out, HF.out, hF']; rfl
                subst hF' hD'
                clear g5 f5 hy
                go_wp2
                go_meet
                case rel => exact ⟨rfl, IsSl.nil _, Below.refl _ _⟩
            · have hq : ((xa : Int) == (xb : Int)) = false := by rw [beq_eq_false_iff_ne]; omega
              have hF' : F = 2 := by
                rw [← HF.out]; unfold patchNo; rw [HRA.out, HRB.out]
                simp
                omega
              have hD' : D = [] := by rw [← HD.out, HF.out, hF']; rfl
              subst hF' hD'
              clear g5 f5 hx
              go_wp2
              go_meet
              case rel => exact ⟨rfl, IsSl.nil _, Below.refl _ _⟩
          | false =>
            have hF' : F = 150 := by
              rw [← HF.out]; unfold patchNo; rw [HRA.out, HRB.out, HRAB.out]; rfl
            have hD' : D = [] := by rw [← HD.out, HF.out, hF']; rfl
            subst hF' hD'
            go_wp2
            go_meet
            case rel => exact ⟨rfl, IsSl.nil _, Below.refl _ _⟩
        case rest =>
          obtain ⟨rfl, h16, hBc⟩ := hcut
          obtain ⟨W9, hW9⟩ : ∃ W9, W9 = wc := ⟨_, rfl⟩
          subst hW9
          have I9 := I8.below hBc
          have h11 := h11.below hBc
          have h13 := h13.below hBc
          have h15 := h15.below hBc
          clear I8 hBc
          go_wp2_with fail
          refine (w_equal C _ _ _ h11 h15).mono ?_
          rintro e W10 ⟨rfl, hB10⟩
          go_wp2_with fail
          refine (w_equal D _ _ _ (h13.below hB10) (h16.below hB10)).mono ?_
          rintro e W11 ⟨rfl, hB11⟩
          have I11 := (I9.below hB10).below hB11
          clear h11 h13 h15 h16 I9 hB10 hB11
          go_wp2_with (refine wl_min z.length 6000 rfl rfl rfl ?_; intro k hk1 hk2 hk3)
          have hzk := I11.bz.part hk1
          obtain ⟨Z, hZ⟩ : ∃ Z, z.take k = Z := ⟨_, rfl⟩
          have hZl : Z.length = k := by rw [← hZ]; simp; omega
          rw [hZ] at hzk
          have HZT : Hid (z.take Z.length = Z) := by rw [hZl]; exact hZ
          clear hZ hk3
          subst hZl
          refine (clone_bytes _ Z _ hzk (by omega)).mono ?_
          rintro e W12 ⟨v19, rfl, ho19, hB12⟩
          obtain ⟨a19, c19, rfl, _⟩ := ownsRow_slice ho19
          have h19 : Bytes W12 (.slice a19 Z.length c19) Z := OwnB.bytes (base := W11.heap.size) ho19
          have I12 := I11.below hB12
          clear I11 hzk ho19 hB12
          cases hr : readCan Z with
          | none =>
            have HR := Lib.hid hr
            clear hr
            go_wp2_with fail
            refine (c_readcan_no _ _ _ h19 HR.out).mono ?_
            rintro e W13 ⟨rfl, hB13⟩
            have u13 := Below.upA hB13 (.cells #[.int .i64 0, .int .i64 0, .slice none 0 0] 43)
            have k20 := Blk.new W13 #[.int .i64 0, .int .i64 0, .slice none 0 0] 43
            have n7 : b7 < W13.heap.size := (Blk.up I12.k7 hB13).lt
            have n8 : b8 < W13.heap.size := (Blk.up I12.k8 hB13).lt
            have I13 := I12.below u13
            have h19 := h19.below u13
            go_wp2_with fail
            refine (refreadcan_any _ _ _ h19 (by omega)).mono ?_
            rintro e W14 ⟨hB14, he⟩
            rw [HR.out] at he
            change e = .returned (.tuple #[canV 0 0 (.slice none 0 0), .int .i64 0]) at he
            subst he
            have u14 := Below.upA hB14 (.cells #[.int .i64 0, .int .i64 0, .slice none 0 0] 43)
            have k20 := Blk.up k20 u14
            have k23 := Blk.new W14 #[.int .i64 0, .int .i64 0, .slice none 0 0] 43
            have n23 : W13.heap.size < W14.heap.size := by have := hB14.size; simp at this; omega
            have I14 := I13.below u14
            have h19 := h19.below u14
            obtain ⟨q20, r20, l20⟩ := k20.all
            obtain ⟨q23, r23, l23⟩ := k23.all
            go_wp2_with fail
            refine (c_same 0 0 _ _ [] _ (Tiles.nil _) (Tiles.nil _) (by simp)).mono ?_
            rintro e W15 ⟨rfl, hB15⟩
            have I15 := I14.below hB15
            have h19 := h19.below hB15
            have k20 := Blk.up k20 hB15
            have k23 := Blk.up k23 hB15
            clear I12 u13 I13 u14 I14 q20 r20 l20 q23 r23 l23 hB13 hB14 hB15
            go_upto_region 22 with fail
            obtain ⟨p20, hp20⟩ : ∃ p, W13.heap.size = p := ⟨_, rfl⟩
            obtain ⟨p23, hp23⟩ : ∃ p, W14.heap.size = p := ⟨_, rfl⟩
            rw [hp20] at n7 n8 n23 k20 ⊢
            rw [hp23] at n23 k23 ⊢
            clear hp20 hp23
            refine gen_code (fun W => CvInv w W x y x2 y2 (.slice a1 L1.length c1) (.slice a2 L2.length c2) (.slice az z.length cz) L1 L2 z b7 b8 (.slice aA A.length cA) (.slice aB B.length cB) A B ∧ CanB W p20 ∧ CanB W p23 ∧ Bytes W (.slice a19 Z.length c19) Z) ⟨I15, ⟨_, _, _, _, _, k20⟩, ⟨_, _, _, _, _, k23⟩, h19⟩ ?_
            clear I15 k20 k23 h19
            rintro W22 ⟨I22, k20, k23, h19⟩
            have hl20 := k20.lt
            have hl23 := k23.lt
            obtain ⟨r, hd⟩ : ∃ r, appOf (canOk x y A.length) (readApp x.toNat y.toNat A Z) = r := ⟨_, rfl⟩
            obtain ⟨dx, dy, dA, dn, de⟩ := r
            have HDD := Lib.hid hd
            clear hd
            obtain ⟨q7, r7, l7⟩ := I22.k7.all
            have hS : ∀ k, (k = p20 ∨ k = p23) → ∃ cs' t, Blk W22 k cs' t ∧ noB cs' := by
              rintro k (rfl | rfl)
              · exact k20.noB
              · exact k23.noB
            have hSn : ∀ k, (k = p20 ∨ k = p23) → w.heap.size + 2 ≤ k ∧ k ≠ b7 ∧ k ≠ b8 := by
              rintro k (rfl | rfl)
              · exact ⟨by omega, by omega, by omega⟩
              · exact ⟨by omega, by omega, by omega⟩
            have hd16 : dA.length ≤ 16 := appOf_len HDD.out
            have hdA : dA.length ≤ 1000000 := Nat.le_trans hd16 (by decide)
            have hdl : dA.length ≤ 1000 := Nat.le_trans hd16 (by decide)
            clear hd16
            have HSB := Lib.hid hS
            have HSN := Lib.hid hSn
            clear hS hSn
            go_wp2_with fail
            refine (c_apply_gen x y _ _ A Z _ I22.tA h19 dx dy dA dn de HDD.out).mono ?_
            rintro e W23 ⟨ad, cd, rfl, hod, hB23⟩
            have k20a := k20.below hB23
            have k23a := k23.below hB23
            obtain ⟨x20, y20, a20', n20, c20', bk20⟩ := k20a
            obtain ⟨x23, y23, a23', n23, c23', bk23⟩ := k23a
            have kb23 : KBut (fun k => k = p20 ∨ k = p23) W22 W23 := KBut.of_below hB23
            have bk23b := Blk.setRowO bk23 #[.int .i64 dx, .int .i64 dy, .slice ad dA.length cd] (n := p20) (by omega)
            have hdo20 : (Value.slice ad dA.length cd).ownBlock ≠ some p20 := fun h => by have := (hod.ltB h).1; omega
            have hdo23 : (Value.slice ad dA.length cd).ownBlock ≠ some p23 := fun h => by have := (hod.ltB h).1; omega
            have kb24 : KBut (fun k => k = p20 ∨ k = p23) W22 ((W23.setRow p20 #[.int .i64 dx, .int .i64 dy, .slice ad dA.length cd]).setRow p23 #[.int .i64 0, .int .i64 0, .slice none 0 0]) := KBut.setRowT (KBut.setRowT kb23 (.inl rfl) _) (.inr rfl) _
            have hod24 := (hod.setRowO #[.int .i64 dx, .int .i64 dy, .slice ad dA.length cd] hdo20).setRowO #[.int .i64 0, .int .i64 0, .slice none 0 0] hdo23
            have k20b : Blk ((W23.setRow p20 #[.int .i64 dx, .int .i64 dy, .slice ad dA.length cd]).setRow p23 #[.int .i64 0, .int .i64 0, .slice none 0 0]) p20 #[.int .i64 dx, .int .i64 dy, .slice ad dA.length cd] 43 := Blk.setRowO (Blk.setRow bk20) _ (by omega)
            have k23b : Blk ((W23.setRow p20 #[.int .i64 dx, .int .i64 dy, .slice ad dA.length cd]).setRow p23 #[.int .i64 0, .int .i64 0, .slice none 0 0]) p23 #[.int .i64 0, .int .i64 0, .slice none 0 0] 43 := Blk.setRow bk23b
            clear q7 r7 l7 k20 k23
            go_upto_if 139 with (first | refine wl_store_can rfl rfl rfl bk20 ?_ | refine wl_store_can rfl rfl rfl bk23b ?_)
            clear bk20 bk23 bk23b kb23 hod
            obtain ⟨W24, hW24⟩ : ∃ W24, (W23.setRow p20 #[.int .i64 dx, .int .i64 dy, .slice ad dA.length cd]).setRow p23 #[.int .i64 0, .int .i64 0, .slice none 0 0] = W24 := ⟨_, rfl⟩
            rw [hW24] at kb24 hod24 k20b k23b ⊢
            clear hW24 hB23
            go_cut [24, 25] (fun s24 s25 wx => s24 = .int .i64 dn ∧ s25 = .int .i64 de ∧ (∃ a n c, Blk wx p23 #[.int .i64 dx, .int .i64 dy, .slice a n c] 43 ∧ Tiles wx (.slice a n c) dA) ∧ KBut (fun k => k = p20 ∨ k = p23) W22 wx ∧ Blk wx p20 #[.int .i64 dx, .int .i64 dy, .slice ad dA.length cd] 43 ∧ OwnT W22.heap.size wx (.slice ad dA.length cd) dA)
            case first =>
              cases ra with
              | false =>
                have hdd := HDD.out
                rw [HRA.out] at hdd
                simp only [appOf, Prod.mk.injEq] at hdd
                obtain ⟨rfl, rfl, rfl, rfl, rfl⟩ := hdd
                go_wp2
                go_meet
                case rel => exact ⟨rfl, rfl, ⟨none, 0, 0, k23b, Tiles.nil _⟩, kb24, k20b, hod24⟩
              | true =>
                obtain ⟨xa, ya, rfl, rfl, g1, g2, g3, g4, g5⟩ := canOk_nat HRA.out
                have I24 := I22.kbut kb24 HSB.out HSN.out
                have h19' : Bytes W24 (.slice a19 Z.length c19) Z := IsSl.kbut h19 kb24 HSB.out (fun u hu => by obtain ⟨b, _, rfl⟩ := List.mem_map.1 hu; exact ⟨b, rfl⟩)
                have hA0 : 0 < A.length := by rw [g5]; exact Nat.mul_pos (by omega) (by omega)
                have G5 := Lib.hid g5
                clear g5
                obtain ⟨q7, r7, l7⟩ := I24.k7.all
                go_wp2_with fail
                refine (refapply_any xa ya _ _ A Z _ g2 g4 I24.tA G5.out hA0 h19' (by omega)).mono ?_
                rintro e W25 ⟨hB25, he⟩
                have k23c := Blk.up k23b hB25
                have k20c := Blk.up k20b hB25
                have hsz := kb24.size
                have hod25 : OwnT W22.heap.size W25 (.slice ad dA.length cd) dA := hod24.below hB25
                have kb25 := kb24.belowT hB25 hsz
                have hdd := HDD.out
                rw [HRA.out, Int.toNat_natCast, Int.toNat_natCast] at hdd
                cases hra : readApp xa ya A Z with
                | none =>
                  rw [hra] at he hdd
                  change e = .returned (.tuple #[canV 0 0 (.slice none 0 0), .int .i64 0]) at he
                  subst he
                  simp only [appOf, Prod.mk.injEq] at hdd
                  obtain ⟨rfl, rfl, rfl, rfl, rfl⟩ := hdd
                  clear hra
                  go_wp2_with (refine wl_store_can rfl rfl rfl k23c ?_)
                  go_meet
                  case rel => exact ⟨rfl, rfl, ⟨none, 0, 0, Blk.setRow k23c, Tiles.nil _⟩, kb25.setRowT (.inr rfl) _, Blk.setRowO k20c _ (by omega), hod25.setRowO _ hdo23⟩
                | some q =>
                  obtain ⟨q1, q2, M, k⟩ := q
                  rw [hra] at he hdd
                  obtain ⟨a25, c25, rfl, ho25⟩ := he
                  simp only [appOf, Prod.mk.injEq] at hdd
                  obtain ⟨rfl, rfl, rfl, rfl, rfl⟩ := hdd
                  have hk0 : (0 : Int) < (k : Int) := by have := readapp_pos _ _ _ _ _ _ _ _ hra; omega
                  clear hra
                  have h25o : (Value.slice a25 M.length c25).ownBlock ≠ some p23 := fun h => by have := (ho25.ltB h).1; have := k23b.lt; omega
                  go_wp2_with (refine wl_store_can rfl rfl rfl k23c ?_)
                  go_meet
                  case rel => exact ⟨rfl, rfl, ⟨_, _, _, Blk.setRow k23c, (ho25.setRowO _ h25o).tiles⟩, kb25.setRowT (.inr rfl) _, Blk.setRowO k20c _ (by omega), hod25.setRowO _ hdo23⟩
            case rest =>
              obtain ⟨rfl, rfl, ⟨a26, n26, c26, k23c, t26⟩, kb26, k20c, hod26⟩ := hcut
              obtain ⟨W26, hW26⟩ : ∃ W26, W26 = wc := ⟨_, rfl⟩
              subst hW26
              clear kb24 hod24 k20b k23b
              obtain ⟨q20, r20, l20⟩ := k20c.all
              obtain ⟨q23, r23, l23⟩ := k23c.all
              go_wp2_with fail
              refine (c_same dx dy _ _ dA _ hod26.tiles t26 hdA).mono ?_
              rintro e W27 ⟨rfl, hB27⟩
              have k20d := Blk.up k20c hB27
              have hod27 := hod26.below hB27
              have hsz26 := kb26.size
              have kb27 := kb26.belowT hB27 hsz26
              clear q20 r20 l20 q23 r23 l23 k20c k23c t26 hod26
              obtain ⟨q20, r20, l20⟩ := k20d.all
              go_upto_region 33 with (go_at_call 30; refine (spoil_any W22.heap.size dx dy _ dA _ hod27 hdl kb27.size).mono ?_; rintro e W28 ⟨rfl, hB28⟩)
              have kb28 := kb27.belowT hB28 (Nat.le_refl _)
              have h19e : Bytes W28 (.slice a19 Z.length c19) Z := IsSl.kbut h19 kb28 HSB.out (fun u hu => by obtain ⟨b, _, rfl⟩ := List.mem_map.1 hu; exact ⟨b, rfl⟩)
              have I28 := I22.kbut kb28 HSB.out HSN.out
              clear q20 r20 l20 k20d hod27 hsz26 kb26 kb27 kb28 hB27 hB28 I22 h19
              have hzc := hcz
              have hW28 : Below W28.heap.size W28 W28.drew := (Below.refl _ W28).drew
              refine wp_region_cuts [.q [_, _], .e _, .e _, .q [_, _, _], .e _, .e _, .q [_, _, _, _, _, _, _]] [_, _, _] rfl (fun w'' => Below W28.heap.size W28 w'') (by kernel_rfl) (by kernel_rfl) (fun _ _ d _ _ h => by cases d <;> exact h) ?_
              refine cut_q hW28 ?_
              repeat (first | go_big_quiet_step ((intros; rfl)) | quiet_step ((intros; rfl)) | (refine wq_load_blk _ rfl rfl (fun w'' hC => Blk.up I28.k7 hC) Try.underlying43 rfl (by kernel_rfl) ?_; simp only [Act.put, List.setIfInBounds_toArray, List.set_cons_succ, List.set_cons_zero]) | (refine wq_load_blk _ rfl rfl (fun w'' hC => Blk.up I28.kx hC) Try.underlying43 rfl (by kernel_rfl) ?_; simp only [Act.put, List.setIfInBounds_toArray, List.set_cons_succ, List.set_cons_zero]) | (refine wq_loadB rfl rfl (by kernel_rfl) (by assumption) ?_; simp only [Act.put, List.setIfInBounds_toArray, List.set_cons_succ, List.set_cons_zero]))
              refine wpQuiet_nil ?_
              refine cut_e ?_
              go_wp2_with fail
              refine (own_any x y _ L1 _ (I28.tx.below hW28)).mono ?_
              rintro e W29 ⟨v29, rfl, ho29, hB29⟩
              rw [HA.out] at ho29
              have u29 := Below.up hW28 hB29
              have t29 := ho29.tiles
              clear ho29 hB29
              go_wp2
              refine ⟨u29, ?_⟩
              refine cut_e ?_
              go_wp2_with fail
              refine (c_same x y _ _ A _ (I28.tA.below u29) t29 (by omega)).mono ?_
              rintro e W30 ⟨rfl, hB30⟩
              have u30 := Below.up u29 hB30
              go_wp2
              refine ⟨u30, ?_⟩
              refine cut_q u30 ?_
              repeat (first | go_big_quiet_step ((intros; rfl)) | quiet_step ((intros; rfl)) | (refine wq_load_blk _ rfl rfl (fun w'' hC => Blk.up I28.k8 hC) Try.underlying43 rfl (by kernel_rfl) ?_; simp only [Act.put, List.setIfInBounds_toArray, List.set_cons_succ, List.set_cons_zero]) | (refine wq_load_blk _ rfl rfl (fun w'' hC => Blk.up I28.ky hC) Try.underlying43 rfl (by kernel_rfl) ?_; simp only [Act.put, List.setIfInBounds_toArray, List.set_cons_succ, List.set_cons_zero]) | (refine wq_loadB rfl rfl (by kernel_rfl) (by assumption) ?_; simp only [Act.put, List.setIfInBounds_toArray, List.set_cons_succ, List.set_cons_zero]))
              refine wpQuiet_nil ?_
              refine cut_e ?_
              go_wp2_with fail
              refine (own_any x2 y2 _ L2 _ (I28.ty.below u30)).mono ?_
              rintro e W31 ⟨v31, rfl, ho31, hB31⟩
              rw [HB.out] at ho31
              have u31 := Below.up u30 hB31
              have t31 := ho31.tiles
              clear ho31 hB31
              go_wp2
              refine ⟨u31, ?_⟩
              refine cut_e ?_
              go_wp2_with fail
              refine (c_same x2 y2 _ _ B _ (I28.tB.below u31) t31 (by omega)).mono ?_
              rintro e W32 ⟨rfl, hB32⟩
              have u32 := Below.up u31 hB32
              go_wp2
              refine ⟨u32, ?_⟩
              refine cut_q u32 ?_
              repeat (first | go_big_quiet_step ((intros; rfl)) | quiet_step ((intros; rfl)) | fail | (refine wq_loadB rfl rfl (by kernel_rfl) (by assumption) ?_; simp only [Act.put, List.setIfInBounds_toArray, List.set_cons_succ, List.set_cons_zero]))
              refine wpQuiet_nil ?_
              refine cut_end ?_
              have I32 := I28.below u32
              have h19f := h19e.below u32
              have hzk := I32.bz.part hk1
              rw [HZT.out] at hzk
              go_wp2_with fail
              refine (w_equal Z _ _ _ h19f hzk).mono ?_
              rintro e W33 ⟨rfl, hB33⟩
              go_wp2
              go_ret
              exact ⟨rfl, (I32.below hB33).bel⟩
          | some q =>
            obtain ⟨ca, cb, M, n⟩ := q
            obtain ⟨e1, e2, e3, e4, e5, e6, e7⟩ := readcan_own _ _ _ _ _ hr
            have hn0 : (0 : Int) < (n : Int) := by omega
            have hn0' : ((n : Int) == 0) = false := by rw [beq_eq_false_iff_ne]; omega
            have hM : M.length ≤ 1000 := by have := Nat.mul_le_mul e1.2 e2.2; omega
            have HR := Lib.hid hr
            clear hr e1 e2 e3 e4 e5 e6 e7
            go_wp2_with fail
            refine (c_readcan_yes _ _ ca cb M n _ h19 HR.out).mono ?_
            rintro e W13 ⟨a20, c20, rfl, ho20, hB13⟩
            have u13 := Below.upA hB13 (.cells #[.int .i64 ca, .int .i64 cb, .slice a20 M.length c20] 43)
            have k20 := Blk.new W13 #[.int .i64 ca, .int .i64 cb, .slice a20 M.length c20] 43
            have t20 := ho20.tiles.below (Below.new W13 (.cells #[.int .i64 ca, .int .i64 cb, .slice a20 M.length c20] 43))
            have n7 : b7 < W13.heap.size := (Blk.up I12.k7 hB13).lt
            have n8 : b8 < W13.heap.size := (Blk.up I12.k8 hB13).lt
            have I13 := I12.below u13
            have h19 := h19.below u13
            go_wp2_with fail
            refine (refreadcan_any _ _ _ h19 (by omega)).mono ?_
            rintro e W14 ⟨hB14, he⟩
            rw [HR.out] at he
            obtain ⟨a23, c23, rfl, ho23⟩ := he
            have u14 := Below.upA hB14 (.cells #[.int .i64 ca, .int .i64 cb, .slice a23 M.length c23] 43)
            have k20 := Blk.up k20 u14
            have t20 := t20.below u14
            have k23 := Blk.new W14 #[.int .i64 ca, .int .i64 cb, .slice a23 M.length c23] 43
            have t23 := ho23.tiles.below (Below.new W14 (.cells #[.int .i64 ca, .int .i64 cb, .slice a23 M.length c23] 43))
            have n23 : W13.heap.size < W14.heap.size := by have := hB14.size; simp at this; omega
            have I14 := I13.below u14
            have h19 := h19.below u14
            obtain ⟨q20, r20, l20⟩ := k20.all
            obtain ⟨q23, r23, l23⟩ := k23.all
            go_wp2_with fail
            refine (c_same ca cb _ _ M _ t20 t23 (by omega)).mono ?_
            rintro e W15 ⟨rfl, hB15⟩
            have I15 := I14.below hB15
            have h19 := h19.below hB15
            have k20 := Blk.up k20 hB15
            have k23 := Blk.up k23 hB15
            clear I12 u13 I13 u14 I14 q20 r20 l20 q23 r23 l23 hB13 hB14 hB15 t20 t23 ho20 ho23
            go_upto_region 22 with fail
            clear hn0 hn0'
            obtain ⟨p20, hp20⟩ : ∃ p, W13.heap.size = p := ⟨_, rfl⟩
            obtain ⟨p23, hp23⟩ : ∃ p, W14.heap.size = p := ⟨_, rfl⟩
            rw [hp20] at n7 n8 n23 k20 ⊢
            rw [hp23] at n23 k23 ⊢
            clear hp20 hp23
            refine gen_code (fun W => CvInv w W x y x2 y2 (.slice a1 L1.length c1) (.slice a2 L2.length c2) (.slice az z.length cz) L1 L2 z b7 b8 (.slice aA A.length cA) (.slice aB B.length cB) A B ∧ CanB W p20 ∧ CanB W p23 ∧ Bytes W (.slice a19 Z.length c19) Z) ⟨I15, ⟨_, _, _, _, _, k20⟩, ⟨_, _, _, _, _, k23⟩, h19⟩ ?_
            clear I15 k20 k23 h19
            rintro W22 ⟨I22, k20, k23, h19⟩
            have hl20 := k20.lt
            have hl23 := k23.lt
            obtain ⟨r, hd⟩ : ∃ r, appOf (canOk x y A.length) (readApp x.toNat y.toNat A Z) = r := ⟨_, rfl⟩
            obtain ⟨dx, dy, dA, dn, de⟩ := r
            have HDD := Lib.hid hd
            clear hd
            obtain ⟨q7, r7, l7⟩ := I22.k7.all
            have hS : ∀ k, (k = p20 ∨ k = p23) → ∃ cs' t, Blk W22 k cs' t ∧ noB cs' := by
              rintro k (rfl | rfl)
              · exact k20.noB
              · exact k23.noB
            have hSn : ∀ k, (k = p20 ∨ k = p23) → w.heap.size + 2 ≤ k ∧ k ≠ b7 ∧ k ≠ b8 := by
              rintro k (rfl | rfl)
              · exact ⟨by omega, by omega, by omega⟩
              · exact ⟨by omega, by omega, by omega⟩
            have hd16 : dA.length ≤ 16 := appOf_len HDD.out
            have hdA : dA.length ≤ 1000000 := Nat.le_trans hd16 (by decide)
            have hdl : dA.length ≤ 1000 := Nat.le_trans hd16 (by decide)
            clear hd16
            have HSB := Lib.hid hS
            have HSN := Lib.hid hSn
            clear hS hSn
            go_wp2_with fail
            refine (c_apply_gen x y _ _ A Z _ I22.tA h19 dx dy dA dn de HDD.out).mono ?_
            rintro e W23 ⟨ad, cd, rfl, hod, hB23⟩
            have k20a := k20.below hB23
            have k23a := k23.below hB23
            obtain ⟨x20, y20, a20', n20, c20', bk20⟩ := k20a
            obtain ⟨x23, y23, a23', n23, c23', bk23⟩ := k23a
            have kb23 : KBut (fun k => k = p20 ∨ k = p23) W22 W23 := KBut.of_below hB23
            have bk23b := Blk.setRowO bk23 #[.int .i64 dx, .int .i64 dy, .slice ad dA.length cd] (n := p20) (by omega)
            have hdo20 : (Value.slice ad dA.length cd).ownBlock ≠ some p20 := fun h => by have := (hod.ltB h).1; omega
            have hdo23 : (Value.slice ad dA.length cd).ownBlock ≠ some p23 := fun h => by have := (hod.ltB h).1; omega
            have kb24 : KBut (fun k => k = p20 ∨ k = p23) W22 ((W23.setRow p20 #[.int .i64 dx, .int .i64 dy, .slice ad dA.length cd]).setRow p23 #[.int .i64 0, .int .i64 0, .slice none 0 0]) := KBut.setRowT (KBut.setRowT kb23 (.inl rfl) _) (.inr rfl) _
            have hod24 := (hod.setRowO #[.int .i64 dx, .int .i64 dy, .slice ad dA.length cd] hdo20).setRowO #[.int .i64 0, .int .i64 0, .slice none 0 0] hdo23
            have k20b : Blk ((W23.setRow p20 #[.int .i64 dx, .int .i64 dy, .slice ad dA.length cd]).setRow p23 #[.int .i64 0, .int .i64 0, .slice none 0 0]) p20 #[.int .i64 dx, .int .i64 dy, .slice ad dA.length cd] 43 := Blk.setRowO (Blk.setRow bk20) _ (by omega)
            have k23b : Blk ((W23.setRow p20 #[.int .i64 dx, .int .i64 dy, .slice ad dA.length cd]).setRow p23 #[.int .i64 0, .int .i64 0, .slice none 0 0]) p23 #[.int .i64 0, .int .i64 0, .slice none 0 0] 43 := Blk.setRow bk23b
            clear q7 r7 l7 k20 k23
            go_upto_if 139 with (first | refine wl_store_can rfl rfl rfl bk20 ?_ | refine wl_store_can rfl rfl rfl bk23b ?_)
            clear bk20 bk23 bk23b kb23 hod
            obtain ⟨W24, hW24⟩ : ∃ W24, (W23.setRow p20 #[.int .i64 dx, .int .i64 dy, .slice ad dA.length cd]).setRow p23 #[.int .i64 0, .int .i64 0, .slice none 0 0] = W24 := ⟨_, rfl⟩
            rw [hW24] at kb24 hod24 k20b k23b ⊢
            clear hW24 hB23
            go_cut [24, 25] (fun s24 s25 wx => s24 = .int .i64 dn ∧ s25 = .int .i64 de ∧ (∃ a n c, Blk wx p23 #[.int .i64 dx, .int .i64 dy, .slice a n c] 43 ∧ Tiles wx (.slice a n c) dA) ∧ KBut (fun k => k = p20 ∨ k = p23) W22 wx ∧ Blk wx p20 #[.int .i64 dx, .int .i64 dy, .slice ad dA.length cd] 43 ∧ OwnT W22.heap.size wx (.slice ad dA.length cd) dA)
            case first =>
              cases ra with
              | false =>
                have hdd := HDD.out
                rw [HRA.out] at hdd
                simp only [appOf, Prod.mk.injEq] at hdd
                obtain ⟨rfl, rfl, rfl, rfl, rfl⟩ := hdd
                go_wp2
                go_meet
                case rel => exact ⟨rfl, rfl, ⟨none, 0, 0, k23b, Tiles.nil _⟩, kb24, k20b, hod24⟩
              | true =>
                obtain ⟨xa, ya, rfl, rfl, g1, g2, g3, g4, g5⟩ := canOk_nat HRA.out
                have I24 := I22.kbut kb24 HSB.out HSN.out
                have h19' : Bytes W24 (.slice a19 Z.length c19) Z := IsSl.kbut h19 kb24 HSB.out (fun u hu => by obtain ⟨b, _, rfl⟩ := List.mem_map.1 hu; exact ⟨b, rfl⟩)
                have hA0 : 0 < A.length := by rw [g5]; exact Nat.mul_pos (by omega) (by omega)
                have G5 := Lib.hid g5
                clear g5
                obtain ⟨q7, r7, l7⟩ := I24.k7.all
                go_wp2_with fail
                refine (refapply_any xa ya _ _ A Z _ g2 g4 I24.tA G5.out hA0 h19' (by omega)).mono ?_
                rintro e W25 ⟨hB25, he⟩
                have k23c := Blk.up k23b hB25
                have k20c := Blk.up k20b hB25
                have hsz := kb24.size
                have hod25 : OwnT W22.heap.size W25 (.slice ad dA.length cd) dA := hod24.below hB25
                have kb25 := kb24.belowT hB25 hsz
                have hdd := HDD.out
                rw [HRA.out, Int.toNat_natCast, Int.toNat_natCast] at hdd
                cases hra : readApp xa ya A Z with
                | none =>
                  rw [hra] at he hdd
                  change e = .returned (.tuple #[canV 0 0 (.slice none 0 0), .int .i64 0]) at he
                  subst he
                  simp only [appOf, Prod.mk.injEq] at hdd
                  obtain ⟨rfl, rfl, rfl, rfl, rfl⟩ := hdd
                  clear hra
                  go_wp2_with (refine wl_store_can rfl rfl rfl k23c ?_)
                  go_meet
                  case rel => exact ⟨rfl, rfl, ⟨none, 0, 0, Blk.setRow k23c, Tiles.nil _⟩, kb25.setRowT (.inr rfl) _, Blk.setRowO k20c _ (by omega), hod25.setRowO _ hdo23⟩
                | some q =>
                  obtain ⟨q1, q2, M, k⟩ := q
                  rw [hra] at he hdd
                  obtain ⟨a25, c25, rfl, ho25⟩ := he
                  simp only [appOf, Prod.mk.injEq] at hdd
                  obtain ⟨rfl, rfl, rfl, rfl, rfl⟩ := hdd
                  have hk0 : (0 : Int) < (k : Int) := by have := readapp_pos _ _ _ _ _ _ _ _ hra; omega
                  clear hra
                  have h25o : (Value.slice a25 M.length c25).ownBlock ≠ some p23 := fun h => by have := (ho25.ltB h).1; have := k23b.lt; omega
                  go_wp2_with (refine wl_store_can rfl rfl rfl k23c ?_)
                  go_meet
                  case rel => exact ⟨rfl, rfl, ⟨_, _, _, Blk.setRow k23c, (ho25.setRowO _ h25o).tiles⟩, kb25.setRowT (.inr rfl) _, Blk.setRowO k20c _ (by omega), hod25.setRowO _ hdo23⟩
            case rest =>
              obtain ⟨rfl, rfl, ⟨a26, n26, c26, k23c, t26⟩, kb26, k20c, hod26⟩ := hcut
              obtain ⟨W26, hW26⟩ : ∃ W26, W26 = wc := ⟨_, rfl⟩
              subst hW26
              clear kb24 hod24 k20b k23b
              obtain ⟨q20, r20, l20⟩ := k20c.all
              obtain ⟨q23, r23, l23⟩ := k23c.all
              go_wp2_with fail
              refine (c_same dx dy _ _ dA _ hod26.tiles t26 hdA).mono ?_
              rintro e W27 ⟨rfl, hB27⟩
              have k20d := Blk.up k20c hB27
              have hod27 := hod26.below hB27
              have hsz26 := kb26.size
              have kb27 := kb26.belowT hB27 hsz26
              clear q20 r20 l20 q23 r23 l23 k20c k23c t26 hod26
              obtain ⟨q20, r20, l20⟩ := k20d.all
              go_upto_region 33 with (go_at_call 30; refine (spoil_any W22.heap.size dx dy _ dA _ hod27 hdl kb27.size).mono ?_; rintro e W28 ⟨rfl, hB28⟩)
              have kb28 := kb27.belowT hB28 (Nat.le_refl _)
              have h19e : Bytes W28 (.slice a19 Z.length c19) Z := IsSl.kbut h19 kb28 HSB.out (fun u hu => by obtain ⟨b, _, rfl⟩ := List.mem_map.1 hu; exact ⟨b, rfl⟩)
              have I28 := I22.kbut kb28 HSB.out HSN.out
              clear q20 r20 l20 k20d hod27 hsz26 kb26 kb27 kb28 hB27 hB28 I22 h19
              have hzc := hcz
              have hW28 : Below W28.heap.size W28 W28.drew := (Below.refl _ W28).drew
              refine wp_region_cuts [.q [_, _], .e _, .e _, .q [_, _, _], .e _, .e _, .q [_, _, _, _, _, _, _]] [_, _, _] rfl (fun w'' => Below W28.heap.size W28 w'') (by kernel_rfl) (by kernel_rfl) (fun _ _ d _ _ h => by cases d <;> exact h) ?_
              refine cut_q hW28 ?_
              repeat (first | go_big_quiet_step ((intros; rfl)) | quiet_step ((intros; rfl)) | (refine wq_load_blk _ rfl rfl (fun w'' hC => Blk.up I28.k7 hC) Try.underlying43 rfl (by kernel_rfl) ?_; simp only [Act.put, List.setIfInBounds_toArray, List.set_cons_succ, List.set_cons_zero]) | (refine wq_load_blk _ rfl rfl (fun w'' hC => Blk.up I28.kx hC) Try.underlying43 rfl (by kernel_rfl) ?_; simp only [Act.put, List.setIfInBounds_toArray, List.set_cons_succ, List.set_cons_zero]) | (refine wq_loadB rfl rfl (by kernel_rfl) (by assumption) ?_; simp only [Act.put, List.setIfInBounds_toArray, List.set_cons_succ, List.set_cons_zero]))
              refine wpQuiet_nil ?_
              refine cut_e ?_
              go_wp2_with fail
              refine (own_any x y _ L1 _ (I28.tx.below hW28)).mono ?_
              rintro e W29 ⟨v29, rfl, ho29, hB29⟩
              rw [HA.out] at ho29
              have u29 := Below.up hW28 hB29
              have t29 := ho29.tiles
              clear ho29 hB29
              go_wp2
              refine ⟨u29, ?_⟩
              refine cut_e ?_
              go_wp2_with fail
              refine (c_same x y _ _ A _ (I28.tA.below u29) t29 (by omega)).mono ?_
              rintro e W30 ⟨rfl, hB30⟩
              have u30 := Below.up u29 hB30
              go_wp2
              refine ⟨u30, ?_⟩
              refine cut_q u30 ?_
              repeat (first | go_big_quiet_step ((intros; rfl)) | quiet_step ((intros; rfl)) | (refine wq_load_blk _ rfl rfl (fun w'' hC => Blk.up I28.k8 hC) Try.underlying43 rfl (by kernel_rfl) ?_; simp only [Act.put, List.setIfInBounds_toArray, List.set_cons_succ, List.set_cons_zero]) | (refine wq_load_blk _ rfl rfl (fun w'' hC => Blk.up I28.ky hC) Try.underlying43 rfl (by kernel_rfl) ?_; simp only [Act.put, List.setIfInBounds_toArray, List.set_cons_succ, List.set_cons_zero]) | (refine wq_loadB rfl rfl (by kernel_rfl) (by assumption) ?_; simp only [Act.put, List.setIfInBounds_toArray, List.set_cons_succ, List.set_cons_zero]))
              refine wpQuiet_nil ?_
              refine cut_e ?_
              go_wp2_with fail
              refine (own_any x2 y2 _ L2 _ (I28.ty.below u30)).mono ?_
              rintro e W31 ⟨v31, rfl, ho31, hB31⟩
              rw [HB.out] at ho31
              have u31 := Below.up u30 hB31
              have t31 := ho31.tiles
              clear ho31 hB31
              go_wp2
              refine ⟨u31, ?_⟩
              refine cut_e ?_
              go_wp2_with fail
              refine (c_same x2 y2 _ _ B _ (I28.tB.below u31) t31 (by omega)).mono ?_
              rintro e W32 ⟨rfl, hB32⟩
              have u32 := Below.up u31 hB32
              go_wp2
              refine ⟨u32, ?_⟩
              refine cut_q u32 ?_
              repeat (first | go_big_quiet_step ((intros; rfl)) | quiet_step ((intros; rfl)) | fail | (refine wq_loadB rfl rfl (by kernel_rfl) (by assumption) ?_; simp only [Act.put, List.setIfInBounds_toArray, List.set_cons_succ, List.set_cons_zero]))
              refine wpQuiet_nil ?_
              refine cut_end ?_
              have I32 := I28.below u32
              have h19f := h19e.below u32
              have hzk := I32.bz.part hk1
              rw [HZT.out] at hzk
              go_wp2_with fail
              refine (w_equal Z _ _ _ h19f hzk).mono ?_
              rintro e W33 ⟨rfl, hB33⟩
              go_wp2
              go_ret
              exact ⟨rfl, (I32.below hB33).bel⟩

theorem law_canvases2 (v0 : Value) (x0 : Int) (v1 : Value) (x1 : Int) (v2 : Value) (l2 : List UInt8) (w : World) (h0 : ∃ (y : Int) (a : Option Addr) (c : Nat) (L : List (List Col)), v0 = canV x0 y (.slice a L.length c) ∧ Tiles w (.slice a L.length c) L ∧ (-9223372036854775808 ≤ x0 ∧ x0 ≤ 9223372036854775807) ∧ (-9223372036854775808 ≤ y ∧ y ≤ 9223372036854775807)) (h1 : ∃ (y : Int) (a : Option Addr) (c : Nat) (L : List (List Col)), v1 = canV x1 y (.slice a L.length c) ∧ Tiles w (.slice a L.length c) L ∧ (-9223372036854775808 ≤ x1 ∧ x1 ≤ 9223372036854775807) ∧ (-9223372036854775808 ≤ y ∧ y ≤ 9223372036854775807)) (h2 : Bytes w v2 l2) :
    Calls Try.prog 6 #[v0, v1, v2] w fun e w' => e = .returned (.bool true) ∧ Below w.heap.size w w' := by
  obtain ⟨y0, a0, c0, L0, rfl, t0, _⟩ := h0
  obtain ⟨y1, a1, c1, L1, rfl, t1, _⟩ := h1
  exact law_canvases x0 y0 x1 y1 _ _ _ L0 L1 l2 w t0 t1 h2

end Go.Proofs.Ytneajhldmecllaa
