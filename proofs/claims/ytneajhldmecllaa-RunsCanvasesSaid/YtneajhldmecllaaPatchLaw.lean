/- gessolaw10.RunsPatches: its walk. -/
import Derived.Test.YtneajhldmecllaaCanStore
import Derived.Test.YtneajhldmecllaaRGW
namespace Go.Proofs.Ytneajhldmecllaa
open Go.RowKit

/-- a canvas whose tiles are the operation's own -/
def OwnΦ (x y : Int) (M : List (List Col)) (v : Value) (W : World) (lo hi : Nat) : Prop := ∃ a c, v = canV x y (.slice a M.length c) ∧ All64 M ∧ RowΦ 29 256 M.length (tlc M) (.slice a M.length c) W lo hi
theorem OwnΦ.kb {x y : Int} {M : List (List Col)} {v : Value} {w w' : World} {lo hi B : Nat} (h : OwnΦ x y M v w lo hi) (hh : hi ≤ w.heap.size) (hb : KBut (fun k => B ≤ k ∧ (k < lo ∨ hi ≤ k)) w w') : OwnΦ x y M v w' lo hi := by
  obtain ⟨a, c, h1, h2, h3⟩ := h
  exact ⟨a, c, h1, h2, h3.kb hh hb⟩
theorem OwnΦ.below {x y : Int} {M : List (List Col)} {v : Value} {w w' : World} {lo hi : Nat} (h : OwnΦ x y M v w lo hi) (hh : hi ≤ w.heap.size) (hb : Below w.heap.size w w') : OwnΦ x y M v w' lo hi := by
  obtain ⟨a, c, h1, h2, h3⟩ := h
  exact ⟨a, c, h1, h2, h3.below hh hb⟩
abbrev zCan : Array Value := #[.int .i64 0, .int .i64 0, .slice none 0 0]
theorem zeroCan (w : World) : (zeroValue 43).run Try.prog w = .ok (.agg #[.int .i64 0, .int .i64 0, .slice none 0 0]) w := by kernel_rfl
theorem r_own (x y : Int) (v : Value) (L : List (List Col)) (w : World) (hL : Tiles w v L) :
    Calls Try.prog 18 #[canV x y v] w fun e w' => ∃ u, e = .returned u ∧ Below w.heap.size w w' ∧ OwnΦ x y (L.take 17) u w' w.heap.size w'.heap.size := by
  refine (own_any x y v L w hL).mono ?_
  rintro e w' ⟨v', rfl, ho, hb⟩
  obtain ⟨a, c, rfl, _⟩ := ownsRow_slice ho.2
  exact ⟨_, rfl, hb, a, c, rfl, ho.1, RowΦ.mk ho.2⟩

structure PtInv (w W : World) (x y x2 y2 x3 y3 : Int) (p q r : Nat) (s t u : Value) (A B C : List (List Col)) : Prop where
  bel : Below w.heap.size w W
  k7 : Blk W p #[.int .i64 x, .int .i64 y, s] 43
  k8 : Blk W q #[.int .i64 x2, .int .i64 y2, t] 43
  k9 : Blk W r #[.int .i64 x3, .int .i64 y3, u] 43
  tA : Tiles W s A
  tB : Tiles W t B
  tC : Tiles W u C
theorem PtInv.below {w W W' : World} {x y x2 y2 x3 y3 : Int} {p q r : Nat} {s t u : Value} {A B C : List (List Col)} (h : PtInv w W x y x2 y2 x3 y3 p q r s t u A B C) (hb : Below W.heap.size W W') : PtInv w W' x y x2 y2 x3 y3 p q r s t u A B C :=
  ⟨Below.up h.bel hb, Blk.up h.k7 hb, Blk.up h.k8 hb, Blk.up h.k9 hb, h.tA.below hb, h.tB.below hb, h.tC.below hb⟩

def ptΦ (x y x2 y2 x3 y3 : Int) (s1 s2 s3 : Value) (A B C : List (List Col)) : Nat → Value → World → Nat → Nat → Prop
  | 0, v, _, _, _ => v = canV x y s1
  | 1, v, W, lo, hi => OwnΦ x y A v W lo hi
  | 2, v, _, _, _ => v = canV x2 y2 s2
  | 3, v, W, lo, hi => OwnΦ x2 y2 B v W lo hi
  | 4, v, _, _, _ => v = canV x3 y3 s3
  | 5, v, W, lo, hi => OwnΦ x3 y3 C v W lo hi
  | 6, v, W, lo, hi => VarΦ zCan 43 v W lo hi
  | 7, v, W, lo, hi => VarΦ zCan 43 v W lo hi
  | 8, v, W, lo, hi => VarΦ zCan 43 v W lo hi
  | _, _, _, _, _ => True
theorem ptΦ_stable (w0 : World) (x y x2 y2 x3 y3 : Int) (s1 s2 s3 : Value) (A B C : List (List Col)) : RGst 9 w0 [] (ptΦ x y x2 y2 x3 y3 s1 s2 s3 A B C) where
  own := by
    intro i v w w' lo hi _ _ h _ hh hb
    unfold ptΦ at h ⊢
    split <;> first
      | exact h
      | exact OwnΦ.kb h hh hb
      | exact VarΦ.kb h hh hb
      | trivial
  all := by
    intro i v w w' lo hi _ h hh hb
    unfold ptΦ at h ⊢
    split <;> first
      | exact h
      | exact OwnΦ.below h hh hb
      | exact VarΦ.below h hh hb
      | trivial

/-- what is known of region 7: the patch with two bytes behind it is applied -/
def apΦ (x y : Nat) (sA pv : Value) (B : List (List Col)) (l : List UInt8) : Nat → Value → World → Nat → Nat → Prop
  | 0, v, _, _, _ => v = canV x y sA
  | 1, v, _, _, _ => v = pv
  | 2, v, W, lo, hi => RowΦ 5 1 l.length (l.map vb) v W lo hi
  | 3, v, W, lo, hi => LitΦ #[.int .u8 7, .int .u8 7] 5 2 v W lo hi
  | 4, v, W, _, _ => Bytes W v (l ++ [7, 7])
  | 5, v, W, _, _ => ∃ a c, v = .tuple #[canV x y (.slice a B.length c), .int .i64 l.length, .int .i64 0] ∧ Tiles W (.slice a B.length c) B
  | 6, v, W, _, _ => ∃ a c, v = .tuple #[canV x y (.slice a B.length c), .int .i64 l.length, .int .i64 0] ∧ Tiles W (.slice a B.length c) B
  | 7, v, W, _, _ => ∃ a c, v = canV x y (.slice a B.length c) ∧ Tiles W (.slice a B.length c) B
  | 8, v, _, _, _ => v = .int .i64 l.length
  | 9, v, _, _, _ => v = .int .i64 0
  | 10, v, W, lo, hi => VarΦ zCan 43 v W lo hi
  | _, _, _, _, _ => True
theorem apΦ_stable (w0 : World) (x y : Nat) (sA pv : Value) (B : List (List Col)) (l : List UInt8) : RGst 11 w0 [4, 5, 6, 7] (apΦ x y sA pv B l) where
  own := by
    intro i v w w' lo hi hi' ht h _ hh hb
    unfold apΦ at h ⊢
    split <;> first
      | exact h
      | exact RowΦ.kb h hh hb
      | exact LitΦ.kb h hh hb
      | exact VarΦ.kb h hh hb
      | (simp at ht; done)
      | trivial
  all := by
    intro i v w w' lo hi _ h hh hb
    unfold apΦ at h ⊢
    split <;> first
      | exact h
      | exact RowΦ.below h hh hb
      | exact LitΦ.below h hh hb
      | exact VarΦ.below h hh hb
      | exact Bytes.below h hb
      | (obtain ⟨a, c, h1, h2⟩ := h; exact ⟨a, c, h1, h2.below hb⟩)
      | trivial

theorem patchNo_zero {x y x' y' : Int} {n n' : Nat} (h : patchNo x y x' y' n n' = 0) : canOk x y n = true ∧ canOk x' y' n' = true ∧ x' = x ∧ y' = y := by
  unfold patchNo at h
  split at h
  · rename_i hh
    split at h
    · rename_i hxy
      simp at hh
      exact ⟨hh.1, hh.2, hxy.1.symm, hxy.2.symm⟩
    · cases h
  · cases h
theorem patchNo_of {x y : Int} {n n' : Nat} (x' y' : Int) (n2 : Nat) (h1 : canOk x y n = true) (h2 : canOk x y n' = true) : patchNo x y x' y' n n2 = patchNo x y x' y' n' n2 := by
  unfold patchNo
  rw [h1, h2]

set_option maxRecDepth 100000 in
set_option maxHeartbeats 2000000 in
theorem law_patches (x y x2 y2 x3 y3 : Int) (v1 v2 v3 : Value) (L1 L2 L3 : List (List Col)) (w : World) (h1 : Tiles w v1 L1) (h2 : Tiles w v2 L2) (h3 : Tiles w v3 L3) :
    Calls Try.prog 7 #[canV x y v1, canV x2 y2 v2, canV x3 y3 v3] w fun e w' => e = .returned (.bool true) ∧ Below w.heap.size w w' := by
  obtain ⟨a1, c1, rfl, hc1, hm1⟩ := h1.slice
  obtain ⟨a2, c2, rfl, hc2, hm2⟩ := h2.slice
  obtain ⟨a3, c3, rfl, hc3, hm3⟩ := h3.slice
  obtain ⟨W0, hW0⟩ : ∃ W0, ((w.alloc (.cells #[.int .i64 x, .int .i64 y, .slice a1 L1.length c1] 43)).alloc (.cells #[.int .i64 x2, .int .i64 y2, .slice a2 L2.length c2] 43)).alloc (.cells #[.int .i64 x3, .int .i64 y3, .slice a3 L3.length c3] 43) = W0 := ⟨_, rfl⟩
  have I0 : PtInv w W0 x y x2 y2 x3 y3 w.heap.size (w.heap.size + 1) (w.heap.size + 2) (.slice a1 L1.length c1) (.slice a2 L2.length c2) (.slice a3 L3.length c3) L1 L2 L3 := by
    subst hW0
    have hB3 : Below w.heap.size w (((w.alloc (.cells #[.int .i64 x, .int .i64 y, .slice a1 L1.length c1] 43)).alloc (.cells #[.int .i64 x2, .int .i64 y2, .slice a2 L2.length c2] 43)).alloc (.cells #[.int .i64 x3, .int .i64 y3, .slice a3 L3.length c3] 43)) := by repeat (first | assumption | exact Below.refl _ _ | refine below_dN ?_ _ | refine Below.alloc ?_ (by first | exact Nat.le_refl _ | omega | (simp; done) | (simp; omega)) _ | refine Below.setCell ?_ (by first | exact Nat.le_refl _ | omega | (simp; done) | (simp; omega)) _ | refine Below.drew ?_ | refine Below.trans ?_ (Below.mono (by assumption) (by first | exact Nat.le_refl _ | omega | (simp; done) | (simp; omega))))
    have k1 := (Blk.new (w.alloc (.cells #[.int .i64 x, .int .i64 y, .slice a1 L1.length c1] 43)) #[.int .i64 x2, .int .i64 y2, .slice a2 L2.length c2] 43).alloc (.cells #[.int .i64 x3, .int .i64 y3, .slice a3 L3.length c3] 43)
    have k2 := Blk.new ((w.alloc (.cells #[.int .i64 x, .int .i64 y, .slice a1 L1.length c1] 43)).alloc (.cells #[.int .i64 x2, .int .i64 y2, .slice a2 L2.length c2] 43)) #[.int .i64 x3, .int .i64 y3, .slice a3 L3.length c3] 43
    simp only [World.size_alloc] at k1 k2
    exact ⟨hB3, ((Blk.new w _ _).alloc _).alloc _, k1, k2, h1.below hB3, h2.below hB3, h3.below hB3⟩
  clear h1 h2 h3
  obtain ⟨A, hA⟩ : ∃ A, L1.take 17 = A := ⟨_, rfl⟩
  obtain ⟨B, hB⟩ : ∃ B, L2.take 17 = B := ⟨_, rfl⟩
  obtain ⟨C, hC⟩ : ∃ C, L3.take 17 = C := ⟨_, rfl⟩
  have hA17 : A.length ≤ 17 := by rw [← hA]; simp; omega
  have hB17 : B.length ≤ 17 := by rw [← hB]; simp; omega
  have hC17 : C.length ≤ 17 := by rw [← hC]; simp; omega
  have rA := r_own x y (.slice a1 L1.length c1) L1
  have rB := r_own x2 y2 (.slice a2 L2.length c2) L2
  have rC := r_own x3 y3 (.slice a3 L3.length c3) L3
  rw [hA] at rA
  rw [hB] at rB
  rw [hC] at rC
  clear hA hB hC
  have RA := Lib.hid rA
  have RB := Lib.hid rB
  have RC := Lib.hid rC
  clear rA rB rC
  have HW0 := Lib.hid hW0
  clear hW0
  go_enter Try.func7, Try.ntmps7
  go_wp2_with fail
  refine calls_world HW0.out ?_
  refine (wakes_any _).mono ?_
  rintro e W1 ⟨rfl, hB1⟩
  have I1 := I0.below hB1
  clear I0 hB1 HW0
  go_upto_region 3 with fail
  refine gen_code (fun W => PtInv w W x y x2 y2 x3 y3 w.heap.size (w.heap.size + 1) (w.heap.size + 2) (.slice a1 L1.length c1) (.slice a2 L2.length c2) (.slice a3 L3.length c3) L1 L2 L3) I1 ?_
  clear I1
  intro W2 I2
  have hW2d : Below W2.heap.size W2 W2.drew := (Below.refl _ W2).drew
  refine wp_region_rg 9 [] (fun _ => []) [] (ptΦ x y x2 y2 x3 y3 (.slice a1 L1.length c1) (.slice a2 L2.length c2) (.slice a3 L3.length c3) A B C) (by kernel_rfl) (fun _ _ d _ _ h => by cases d <;> exact h) (by kernel_rfl) (ptΦ_stable _ x y x2 y2 x3 y3 _ _ _ _ _ _) ?hop ?hend
  case hop =>
    show rgAll _ 0 [_, _, _, _, _, _, _, _, _]
    refine rgAll_cons (rg_n fun on a W vs lo hi hR hF hp => ?_) (rgAll_cons (rg_n fun on a W vs lo hi hR hF hp => ?_) (rgAll_cons (rg_n fun on a W vs lo hi hR hF hp => ?_) (rgAll_cons (rg_n fun on a W vs lo hi hR hF hp => ?_) (rgAll_cons (rg_n fun on a W vs lo hi hR hF hp => ?_) (rgAll_cons (rg_n fun on a W vs lo hi hR hF hp => ?_) (rgAll_cons (rg_n fun on a W vs lo hi hR hF hp => ?_) (rgAll_cons (rg_n fun on a W vs lo hi hR hF hp => ?_) (rgAll_cons (rg_n fun on a W vs lo hi hR hF hp => ?_) rgAll_nil))))))))
    · exact rg_load_can (hF.tmp0 3 rfl) (Blk.up I2.k7 (Below.up hW2d hR.bel)) rfl
    · exact rg_call1 ((hF.tmp 0 (by decide) (hp 0 (memB rfl)) rfl rfl rfl).trans (hR.fact 0 rfl (hp 0 (memB rfl)) rfl)) (fun v w => by kernel_rfl) (RA.out W (I2.tA.below (Below.up hW2d hR.bel)))
    · exact rg_load_can (hF.tmp0 4 rfl) (Blk.up I2.k8 (Below.up hW2d hR.bel)) rfl
    · exact rg_call1 ((hF.tmp 2 (by decide) (hp 2 (memB rfl)) rfl rfl rfl).trans (hR.fact 2 rfl (hp 2 (memB rfl)) rfl)) (fun v w => by kernel_rfl) (RB.out W (I2.tB.below (Below.up hW2d hR.bel)))
    · exact rg_load_can (hF.tmp0 5 rfl) (Blk.up I2.k9 (Below.up hW2d hR.bel)) rfl
    · exact rg_call1 ((hF.tmp 4 (by decide) (hp 4 (memB rfl)) rfl rfl rfl).trans (hR.fact 4 rfl (hp 4 (memB rfl)) rfl)) (fun v w => by kernel_rfl) (RC.out W (I2.tC.below (Below.up hW2d hR.bel)))
    all_goals
      exact rg_var (zeroCan W)
  case hend =>
    intro W vs lo hi hR
    have e0 : vs 0 = canV x y (.slice a1 L1.length c1) := (hR.fact 0 rfl rfl rfl)
    have e2 : vs 2 = canV x2 y2 (.slice a2 L2.length c2) := (hR.fact 2 rfl rfl rfl)
    have e4 : vs 4 = canV x3 y3 (.slice a3 L3.length c3) := (hR.fact 4 rfl rfl rfl)
    obtain ⟨aA, cA, e1, oA1, oA2, lA⟩ : OwnΦ x y A (vs 1) W (lo 1) (hi 1) := (hR.fact 1 rfl rfl rfl)
    have oA : OwnT (lo 1) W (.slice aA A.length cA) A := ⟨oA1, oA2⟩
    clear oA1 oA2
    obtain ⟨aB, cB, e3, oB1, oB2, lB⟩ : OwnΦ x2 y2 B (vs 3) W (lo 3) (hi 3) := (hR.fact 3 rfl rfl rfl)
    have oB : OwnT (lo 3) W (.slice aB B.length cB) B := ⟨oB1, oB2⟩
    clear oB1 oB2
    obtain ⟨aC, cC, e5, oC1, oC2, lC⟩ : OwnΦ x3 y3 C (vs 5) W (lo 5) (hi 5) := (hR.fact 5 rfl rfl rfl)
    have oC : OwnT (lo 5) W (.slice aC C.length cC) C := ⟨oC1, oC2⟩
    clear oC1 oC2
    obtain ⟨b7, e6, g6, g6', k7⟩ : VarΦ zCan 43 (vs 6) W (lo 6) (hi 6) := (hR.fact 6 rfl rfl rfl)
    obtain ⟨b8, e7, g7, g7', k8⟩ : VarΦ zCan 43 (vs 7) W (lo 7) (hi 7) := (hR.fact 7 rfl rfl rfl)
    obtain ⟨b9, e8, g8, g8', k9⟩ : VarΦ zCan 43 (vs 8) W (lo 8) (hi 8) := (hR.fact 8 rfl rfl rfl)
    have n78 : b7 ≠ b8 := apart_ne (hR.apart 6 7 (by decide) (by decide) rfl rfl (by decide)) ⟨g6, g6'⟩ ⟨g7, g7'⟩
    have n79 : b7 ≠ b9 := apart_ne (hR.apart 6 8 (by decide) (by decide) rfl rfl (by decide)) ⟨g6, g6'⟩ ⟨g8, g8'⟩
    have n89 : b8 ≠ b9 := apart_ne (hR.apart 7 8 (by decide) (by decide) rfl rfl (by decide)) ⟨g7, g7'⟩ ⟨g8, g8'⟩
    have mA7 : (Value.slice aA A.length cA).ownBlock ≠ some b7 := fun h => apart_ne (hR.apart 1 6 (by decide) (by decide) rfl rfl (by decide)) ⟨(oA.ltB h).1, lA b7 h⟩ ⟨g6, g6'⟩ rfl
    have mA8 : (Value.slice aA A.length cA).ownBlock ≠ some b8 := fun h => apart_ne (hR.apart 1 7 (by decide) (by decide) rfl rfl (by decide)) ⟨(oA.ltB h).1, lA b8 h⟩ ⟨g7, g7'⟩ rfl
    have mA9 : (Value.slice aA A.length cA).ownBlock ≠ some b9 := fun h => apart_ne (hR.apart 1 8 (by decide) (by decide) rfl rfl (by decide)) ⟨(oA.ltB h).1, lA b9 h⟩ ⟨g8, g8'⟩ rfl
    have mB7 : (Value.slice aB B.length cB).ownBlock ≠ some b7 := fun h => apart_ne (hR.apart 3 6 (by decide) (by decide) rfl rfl (by decide)) ⟨(oB.ltB h).1, lB b7 h⟩ ⟨g6, g6'⟩ rfl
    have mB8 : (Value.slice aB B.length cB).ownBlock ≠ some b8 := fun h => apart_ne (hR.apart 3 7 (by decide) (by decide) rfl rfl (by decide)) ⟨(oB.ltB h).1, lB b8 h⟩ ⟨g7, g7'⟩ rfl
    have mB9 : (Value.slice aB B.length cB).ownBlock ≠ some b9 := fun h => apart_ne (hR.apart 3 8 (by decide) (by decide) rfl rfl (by decide)) ⟨(oB.ltB h).1, lB b9 h⟩ ⟨g8, g8'⟩ rfl
    have mC7 : (Value.slice aC C.length cC).ownBlock ≠ some b7 := fun h => apart_ne (hR.apart 5 6 (by decide) (by decide) rfl rfl (by decide)) ⟨(oC.ltB h).1, lC b7 h⟩ ⟨g6, g6'⟩ rfl
    have mC8 : (Value.slice aC C.length cC).ownBlock ≠ some b8 := fun h => apart_ne (hR.apart 5 7 (by decide) (by decide) rfl rfl (by decide)) ⟨(oC.ltB h).1, lC b8 h⟩ ⟨g7, g7'⟩ rfl
    have mC9 : (Value.slice aC C.length cC).ownBlock ≠ some b9 := fun h => apart_ne (hR.apart 5 8 (by decide) (by decide) rfl rfl (by decide)) ⟨(oC.ltB h).1, lC b9 h⟩ ⟨g8, g8'⟩ rfl
    have z6 := (hR.bnd 6 (by decide) rfl).1
    have z7 := (hR.bnd 7 (by decide) rfl).1
    have z8 := (hR.bnd 8 (by decide) rfl).1
    have I3 : PtInv w (((W.setRow b7 #[.int .i64 x, .int .i64 y, .slice aA A.length cA]).setRow b8 #[.int .i64 x2, .int .i64 y2, .slice aB B.length cB]).setRow b9 #[.int .i64 x3, .int .i64 y3, .slice aC C.length cC]) x y x2 y2 x3 y3 b7 b8 b9 (.slice aA A.length cA) (.slice aB B.length cB) (.slice aC C.length cC) A B C := by
      have hw := I2.bel.size
      have z0 : w.heap.size ≤ W2.drew.heap.size := hw
      refine ⟨Below.setRow (Below.setRow (Below.setRow (Below.up I2.bel (Below.up hW2d hR.bel)) (Nat.le_trans z0 (Nat.le_trans z6 g6)) _) (Nat.le_trans z0 (Nat.le_trans z7 g7)) _) (Nat.le_trans z0 (Nat.le_trans z8 g8)) _,
        Blk.setRowO (Blk.setRowO (Blk.setRow k7) _ n78.symm) _ n79.symm, Blk.setRowO (Blk.setRow (Blk.setRowO k8 _ n78)) _ n89.symm, Blk.setRow (Blk.setRowO (Blk.setRowO k9 _ n79) _ n89), ?_, ?_, ?_⟩
      · exact (((oA.setRowO _ mA7).setRowO _ mA8).setRowO _ mA9).tiles
      · exact (((oB.setRowO _ mB7).setRowO _ mB8).setRowO _ mB9).tiles
      · exact (((oC.setRowO _ mC7).setRowO _ mC8).setRowO _ mC9).tiles
    have k8' := Blk.setRowO k8 #[.int .i64 x, .int .i64 y, .slice aA A.length cA] n78
    have k9' := Blk.setRowO (Blk.setRowO k9 #[.int .i64 x, .int .i64 y, .slice aA A.length cA] n79) #[.int .i64 x2, .int .i64 y2, .slice aB B.length cB] n89
    clear n78 n79 n89 mA7 mA8 mA9 mB7 mB8 mB9 mC7 mC8 mC9 z6 z7 z8 g6 g6' g7 g7' g8 g8' oA oB oC lA lB lC hR I2 hW2d k8 k9
    show wpList _ _ _ [_, _, _] (((((((((Act.put ⟨_, _⟩ (some 28) (vs 0)).put (some 29) (vs 1)).put (some 30) (vs 2)).put (some 31) (vs 3)).put (some 32) (vs 4)).put (some 33) (vs 5)).put (some 7) (vs 6)).put (some 8) (vs 7)).put (some 9) (vs 8)) W
    rw [e0, e1, e2, e3, e4, e5, e6, e7, e8]
    clear e0 e1 e2 e3 e4 e5 e6 e7 e8
    simp only [Act.put, List.setIfInBounds_toArray, List.set_cons_succ, List.set_cons_zero]
    go_upto_region 4 with (first | refine wl_store_can rfl rfl rfl k7 ?_ | refine wl_store_can rfl rfl rfl k8' ?_ | refine wl_store_can rfl rfl rfl k9' ?_)
    refine gen_code (fun W => PtInv w W x y x2 y2 x3 y3 b7 b8 b9 (.slice aA A.length cA) (.slice aB B.length cB) (.slice aC C.length cC) A B C) I3 ?_
    clear I3 k7 k8' k9' RA RB RC
    intro W4 I4
    simp only [Act.put]
    obtain ⟨q7, r7, l7⟩ := I4.k7.all
    obtain ⟨q8, r8, l8⟩ := I4.k8.all
    by_cases hno : patchNo x y x2 y2 A.length B.length = 0
    · obtain ⟨okA, okB, rfl, rfl⟩ := patchNo_zero hno
      obtain ⟨xa, ya, rfl, rfl, g1, g2, g3, g4, g5⟩ := canOk_nat okA
      have gB : B.length = xa * ya := by
        obtain ⟨xb, yb, e1, e2, _, _, _, _, e3⟩ := canOk_nat okB
        have e1' : xa = xb := by omega
        have e2' : ya = yb := by omega
        subst e1' e2'
        exact e3
      have hpl := patchB_len xa ya A B I4.tB.1
      have hpl2 : (patchB xa ya A B).length ≤ 6000 := by omega
      have hAB := readapp_enc xa ya A B g2 g4 gB I4.tB.1 [7, 7]
      have hap := fun C l3 => readapp_enc xa ya A C g2 g4 l3
      have hselfA := patch_self_len xa ya A
      have hselfB := patch_self_len xa ya B
      have hlen : A.length = B.length := by omega
      have OKA := Lib.hid okA
      have OKB := Lib.hid okB
      have HAB := Lib.hid hAB
      have HSA := Lib.hid hselfA
      have HSB := Lib.hid hselfB
      have HLEN := Lib.hid hlen
      have HGB := Lib.hid gB
      have HG5 := Lib.hid g5
      clear okA okB hno hAB hap hselfA hselfB hlen gB g5 hpl
      go_wp2_with fail
      refine (c_patch_yes xa ya _ _ A B _ I4.tA I4.tB (by omega) OKA.out OKB.out).mono ?_
      rintro e W5 ⟨ap, cp, rfl, hp5, hB5⟩
      have I5 := I4.below hB5
      clear I4 hB5 q7 r7 l7 q8 r8 l8
      go_upto_region 7 with fail
      refine gen_code (fun W => PtInv w W xa ya xa ya x3 y3 b7 b8 b9 (.slice aA A.length cA) (.slice aB B.length cB) (.slice aC C.length cC) A B C ∧ Bytes W (.slice ap (patchB xa ya A B).length cp) (patchB xa ya A B)) ⟨I5, hp5⟩ ?_
      clear I5 hp5
      rintro W6 ⟨I6, hp6⟩
      have hW6d : Below W6.heap.size W6 W6.drew := (Below.refl _ W6).drew
      refine wp_region_rg 11 [false, true, false, false, false, false, true, true, true, true, false] (fun i => if i = 4 then [2] else []) [4, 5, 6, 7] (apΦ xa ya (.slice aA A.length cA) (.slice ap (patchB xa ya A B).length cp) B (patchB xa ya A B)) (by kernel_rfl) (fun _ _ d _ _ h => by cases d <;> exact h) (by kernel_rfl) (apΦ_stable _ xa ya _ _ B _) ?hop ?hend
      case hop =>
        show rgAll _ 0 [_, _, _, _, _, _, _, _, _, _, _]
        refine rgAll_cons (rg_n fun on a W vs lo hi hR hF hp => ?_) (rgAll_cons (rg_q fun on a W vs lo hi hR hF hp => ?_) (rgAll_cons (rg_n fun on a W vs lo hi hR hF hp => ?_) (rgAll_cons (rg_n fun on a W vs lo hi hR hF hp => ?_) (rgAll_cons (rg_w 2 rfl rfl rfl fun on a W vs lo hi hR hF hp h2 b2 b3 => ?_) (rgAll_cons (rg_n fun on a W vs lo hi hR hF hp => ?_) (rgAll_cons (rg_q fun on a W vs lo hi hR hF hp => ?_) (rgAll_cons (rg_q fun on a W vs lo hi hR hF hp => ?_) (rgAll_cons (rg_q fun on a W vs lo hi hR hF hp => ?_) (rgAll_cons (rg_q fun on a W vs lo hi hR hF hp => ?_) (rgAll_cons (rg_n fun on a W vs lo hi hR hF hp => ?_) rgAll_nil))))))))))
        · exact rg_load_can (hF.tmp0 7 rfl) (Blk.up I6.k7 (Below.up hW6d hR.bel)) rfl
        · exact ⟨_, run_move (hF.tmp0 10 rfl), rfl⟩
        · refine rg_call1 ((hF.tmp 1 (by decide) (hp 1 (memB rfl)) rfl rfl rfl).trans (hR.fact 1 rfl (hp 1 (memB rfl)) rfl)) (fun v w => by kernel_rfl) ?_
          refine (clone_bytes _ (patchB xa ya A B) W (hp6.below (Below.up hW6d hR.bel)) (by omega)).mono ?_
          rintro e w' ⟨v', rfl, ho, hb⟩
          exact ⟨v', rfl, hb, RowΦ.mk ho⟩
        · exact rg_lit (fun w => by kernel_rfl)
        · exact rg_append_bytes (hF.tmp 2 (by decide) (hp 2 (memB rfl)) rfl rfl rfl) (hF.tmp 3 (by decide) (hp 3 (memB rfl)) rfl rfl rfl) h2 (LitΦ.bytes (hR.fact 3 rfl (hp 3 (memB rfl)) rfl) [7, 7] rfl rfl (by decide)) (by simp; omega) b2 b3 (fun v' W' h => h)
        · refine rg_call2 ((hF.tmp 0 (by decide) (hp 0 (memB rfl)) rfl rfl rfl).trans (hR.fact 0 rfl (hp 0 (memB rfl)) rfl)) (hF.tmp 4 (by decide) (hp 4 (memB rfl)) rfl rfl rfl) (fun v u w => by kernel_rfl) ?_
          refine (c_apply_yes xa ya _ _ A _ B _ W (I6.tA.below (Below.up hW6d hR.bel)) (hR.fact 4 rfl (hp 4 (memB rfl)) rfl) OKA.out HAB.out).mono ?_
          rintro e w' ⟨a, c, rfl, ho, hb⟩
          exact ⟨_, rfl, hb, a, c, rfl, ho.tiles⟩
        · obtain ⟨a', c', h1, h2⟩ : apΦ xa ya _ _ B _ 5 (vs 5) W (lo 5) (hi 5) := hR.fact 5 rfl (hp 5 (memB rfl)) rfl
          exact ⟨_, run_move ((hF.tmp 5 (by decide) (hp 5 (memB rfl)) rfl rfl rfl).trans h1), a', c', rfl, h2⟩
        · obtain ⟨a', c', h1, h2⟩ : apΦ xa ya _ _ B _ 6 (vs 6) W (lo 6) (hi 6) := hR.fact 6 rfl (hp 6 (memB rfl)) rfl
          exact ⟨_, run_extract ((hF.tmp 6 (by decide) (hp 6 (memB rfl)) rfl rfl rfl).trans h1) rfl, a', c', rfl, h2⟩
        · obtain ⟨a', c', h1, h2⟩ : apΦ xa ya _ _ B _ 6 (vs 6) W (lo 6) (hi 6) := hR.fact 6 rfl (hp 6 (memB rfl)) rfl
          exact ⟨_, run_extract ((hF.tmp 6 (by decide) (hp 6 (memB rfl)) rfl rfl rfl).trans h1) rfl, rfl⟩
        · obtain ⟨a', c', h1, h2⟩ : apΦ xa ya _ _ B _ 6 (vs 6) W (lo 6) (hi 6) := hR.fact 6 rfl (hp 6 (memB rfl)) rfl
          exact ⟨_, run_extract ((hF.tmp 6 (by decide) (hp 6 (memB rfl)) rfl rfl rfl).trans h1) rfl, rfl⟩
        · exact rg_var (zeroCan W)
      case hend =>
        intro W vs lo hi hR
        obtain ⟨a12, c12, e7, t12⟩ : apΦ xa ya (.slice aA A.length cA) (.slice ap (patchB xa ya A B).length cp) B (patchB xa ya A B) 7 (vs 7) W (lo 7) (hi 7) := hR.fact 7 rfl rfl rfl
        have e8 : vs 8 = .int .i64 (patchB xa ya A B).length := hR.fact 8 rfl rfl rfl
        have e9 : vs 9 = .int .i64 0 := hR.fact 9 rfl rfl rfl
        obtain ⟨b12, e10, g10, g10', k12⟩ : VarΦ zCan 43 (vs 10) W (lo 10) (hi 10) := hR.fact 10 rfl rfl rfl
        have z10 := (hR.bnd 10 (by decide) rfl).1
        have hz : W6.heap.size ≤ b12 := Nat.le_trans (show W6.heap.size ≤ W6.drew.heap.size from Nat.le_refl _) (Nat.le_trans z10 g10)
        have I7 := I6.below (Below.setRow (n := b12) (Below.up hW6d hR.bel) hz #[.int .i64 xa, .int .i64 ya, .slice a12 B.length c12])
        have t12' : Tiles (W.setRow b12 #[.int .i64 xa, .int .i64 ya, .slice a12 B.length c12]) (.slice a12 B.length c12) B :=
          t12.kept k12 (fun j x => by rcases j with _ | _ | _ | j <;> simp) (Kept.of_grown (gb_setRow (gb_refl W (some b12)) _) (by rintro k ⟨⟩; rfl))
        have k12' := Blk.setRow (cs' := #[.int .i64 xa, .int .i64 ya, .slice a12 B.length c12]) k12
        clear hR I6 hp6 t12 hW6d g10 g10' z10 hz
        show wpList _ _ _ [_, _, _] (((((((((((Act.put ⟨_, _⟩ (some 46) (vs 0)).put (some 47) (vs 1)).put (some 48) (vs 2)).put (some 49) (vs 3)).put (some 50) (vs 4)).put (some 51) (vs 5)).put (some 45) (vs 6)).put (some 52) (vs 7)).put (some 53) (vs 8)).put (some 54) (vs 9)).put (some 12) (vs 10)) W
        rw [e7, e8, e9, e10]
        clear e7 e8 e9 e10
        simp only [Act.put, List.setIfInBounds_toArray, List.set_cons_succ, List.set_cons_zero]
        go_upto_region 8 with (refine wl_store_can rfl rfl rfl k12 ?_)
        clear k12
        refine gen_code (fun W => PtInv w W xa ya xa ya x3 y3 b7 b8 b9 (.slice aA A.length cA) (.slice aB B.length cB) (.slice aC C.length cC) A B C ∧ Blk W b12 #[.int .i64 xa, .int .i64 ya, .slice a12 B.length c12] 43 ∧ Tiles W (.slice a12 B.length c12) B) ⟨I7, k12', t12'⟩ ?_
        clear I7 k12' t12'
        rintro W8 ⟨I8, k12, t12⟩
        obtain ⟨q7, r7, l7⟩ := I8.k7.all
        go_wp2_with fail
        refine (c_patch_yes xa ya _ _ A A _ I8.tA I8.tA (by omega) OKA.out OKA.out).mono ?_
        rintro e W9 ⟨a15, c15, rfl, _, hB9⟩
        have I9 := I8.below hB9
        have k12b := Blk.up k12 hB9
        have t12b := t12.below hB9
        clear I8 k12 t12 q7 r7 l7
        obtain ⟨q8, r8, l8⟩ := I9.k8.all
        obtain ⟨q12, r12, l12⟩ := k12b.all
        go_wp2_with fail
        refine (c_alike xa ya _ _ B _ t12b I9.tB).mono ?_
        rintro e W10 ⟨rfl, hB10⟩
        have I10 := I9.below hB10
        have k12c := Blk.up k12b hB10
        have t12c := t12b.below hB10
        clear I9 k12b t12b q8 r8 l8 q12 r12 l12
        have u7 : W10.cell? ⟨b7, 2, none⟩ = some (.slice aA A.length cA) := I10.k7.cell 2
        have hqn : (((patchB xa ya A A).length : Int) != 2 + (A.length : Int)) = false := by rw [bne_eq_false_iff_eq, HSA.out]; omega
        have hA0 : (0 : Int) ≤ (A.length : Int) := by omega
        obtain ⟨q8, r8, l8⟩ := I10.k8.all
        obtain ⟨q12, r12, l12⟩ := k12c.all
        go_wp2_with fail
        refine (c_patch_yes xa ya _ _ B B _ I10.tB t12c (by omega) OKB.out OKB.out).mono ?_
        rintro e W11 ⟨a17, c17, rfl, _, hB11⟩
        have I11 := I10.below hB11
        have k12d := Blk.up k12c hB11
        have t12d := t12c.below hB11
        clear I10 k12c t12c q8 r8 l8 q12 r12 l12 u7 hqn hA0
        have hqn : (((patchB xa ya B B).length : Int) != ((patchB xa ya A A).length : Int)) = false := by rw [bne_eq_false_iff_eq, HSA.out, HSB.out, HLEN.out]
        go_upto_region 14 with fail
        clear hqn
        obtain ⟨q7, r7, l7⟩ := I11.k7.all
        obtain ⟨q8, r8, l8⟩ := I11.k8.all
        obtain ⟨q9, r9, l9⟩ := I11.k9.all
        have hpn := patchNo_of x3 y3 C.length OKB.out OKA.out
        by_cases hno : patchNo xa ya x3 y3 B.length C.length = 0
        · obtain ⟨_, okC, rfl, rfl⟩ := patchNo_zero hno
          have gC : C.length = xa * ya := by
            obtain ⟨xb, yb, e1, e2, _, _, _, _, e3⟩ := canOk_nat okC
            have e1' : xa = xb := by omega
            have e2' : ya = yb := by omega
            subst e1' e2'
            exact e3
          have hBC := readapp_enc xa ya B C g2 g4 gC I11.tC.1 []
          have hAC := readapp_enc xa ya A C g2 g4 gC I11.tC.1 []
          rw [List.append_nil] at hBC hAC
          have HBC := Lib.hid hBC
          have HAC := Lib.hid hAC
          have OKC := Lib.hid okC
          clear hno okC gC hBC hAC hpn
          go_wp2_with fail
          refine (c_patch_yes xa ya _ _ B C _ I11.tB I11.tC (by omega) OKB.out OKC.out).mono ?_
          rintro e W12 ⟨aq, cq, rfl, hq12, hB12⟩
          have I12 := I11.below hB12
          have k12e := Blk.up k12d hB12
          have t12e := t12d.below hB12
          clear I11 k12d t12d q7 r7 l7 q8 r8 l8 q9 r9 l9
          obtain ⟨q7, r7, l7⟩ := I12.k7.all
          obtain ⟨q9, r9, l9⟩ := I12.k9.all
          go_wp2_with fail
          refine (c_patch_yes xa ya _ _ A C _ I12.tA I12.tC (by omega) OKA.out OKC.out).mono ?_
          rintro e W13 ⟨ar, cr, rfl, hr13, hB13⟩
          have I13 := I12.below hB13
          have k12f := Blk.up k12e hB13
          have t12f := t12e.below hB13
          have hq13 := hq12.below hB13
          clear I12 k12e t12e hq12 q7 r7 l7 q9 r9 l9
          obtain ⟨q12, r12, l12⟩ := k12f.all
          go_wp2_with fail
          refine (c_apply_yes xa ya _ _ B _ C _ _ t12f hq13 OKB.out HBC.out).mono ?_
          rintro e W14 ⟨a21, c21, rfl, ho21, hB14⟩
          have t21 := ho21.tiles.below (Below.new W14 (.cells #[.int .i64 xa, .int .i64 ya, .slice a21 C.length c21] 43))
          have k21 := Blk.new W14 #[.int .i64 xa, .int .i64 ya, .slice a21 C.length c21] 43
          have u14 := Below.upA hB14 (.cells #[.int .i64 xa, .int .i64 ya, .slice a21 C.length c21] 43)
          have I14 := I13.below u14
          have hr14 := hr13.below u14
          clear I13 k12f t12f hq13 hr13 q12 r12 l12 ho21 u14
          obtain ⟨q7, r7, l7⟩ := I14.k7.all
          go_wp2_with fail
          refine (c_apply_yes xa ya _ _ A _ C _ _ I14.tA hr14 OKA.out HAC.out).mono ?_
          rintro e W15 ⟨a23, c23, rfl, ho23, hB15⟩
          have t23 := ho23.tiles.below (Below.new W15 (.cells #[.int .i64 xa, .int .i64 ya, .slice a23 C.length c23] 43))
          have k23 := Blk.new W15 #[.int .i64 xa, .int .i64 ya, .slice a23 C.length c23] 43
          have u15 := Below.upA hB15 (.cells #[.int .i64 xa, .int .i64 ya, .slice a23 C.length c23] 43)
          have I15 := I14.below u15
          have t21b := t21.below u15
          have k21b := Blk.up k21 u15
          clear I14 hr14 t21 k21 q7 r7 l7 ho23 u15
          obtain ⟨q21, r21, l21⟩ := k21b.all
          obtain ⟨q23, r23, l23⟩ := k23.all
          go_wp2_with fail
          refine (c_alike xa ya _ _ C _ t21b t23).mono ?_
          rintro e W16 ⟨rfl, hB16⟩
          have I16 := I15.below hB16
          have t21c := t21b.below hB16
          have k21c := Blk.up k21b hB16
          clear I15 t21b k21b q21 r21 l21 q23 r23 l23 t23 k23
          obtain ⟨q21, r21, l21⟩ := k21c.all
          obtain ⟨q9, r9, l9⟩ := I16.k9.all
          go_wp2_with fail
          refine (c_alike xa ya _ _ C _ t21c I16.tC).mono ?_
          rintro e W17 ⟨rfl, hB17⟩
          go_wp2
          go_ret
          exact ⟨rfl, (I16.below hB17).bel⟩
        · obtain ⟨en, hen⟩ : ∃ en, patchNo xa ya x3 y3 B.length C.length = en := ⟨_, rfl⟩
          have hq : (en != 0) = true := by rw [← hen]; simpa using hno
          have HEN := Lib.hid hen
          have HNO := Lib.hid hno
          have HPN := Lib.hid hpn
          clear hen hno hpn
          go_wp2_with fail
          refine (c_patch_no xa ya x3 y3 _ _ B C _ I11.tB I11.tC (by omega) HNO.out).mono ?_
          rintro e W12 ⟨aq, cq, rfl, hB12⟩
          rw [HEN.out]
          have I12 := I11.below hB12
          clear I11 k12d t12d q7 r7 l7 q8 r8 l8 q9 r9 l9
          obtain ⟨q7, r7, l7⟩ := I12.k7.all
          obtain ⟨q9, r9, l9⟩ := I12.k9.all
          go_wp2_with fail
          refine (c_patch_no xa ya x3 y3 _ _ A C _ I12.tA I12.tC (by omega) (by rw [← HPN.out]; exact HNO.out)).mono ?_
          rintro e W13 ⟨ar, cr, rfl, hB13⟩
          rw [← HPN.out, HEN.out]
          go_wp2
          go_ret
          exact ⟨rfl, (I12.below hB13).bel⟩
    · obtain ⟨en, hen⟩ : ∃ en, patchNo x y x2 y2 A.length B.length = en := ⟨_, rfl⟩
      have hq : (en != 0) = true := by rw [← hen]; simpa using hno
      have HEN := Lib.hid hen
      have HNO := Lib.hid hno
      clear hen hno
      go_wp2_with fail
      refine (c_patch_no x y x2 y2 _ _ A B _ I4.tA I4.tB (by omega) HNO.out).mono ?_
      rintro e W5 ⟨ap, cp, rfl, hB5⟩
      rw [HEN.out]
      go_wp2
      go_ret
      exact ⟨rfl, (I4.below hB5).bel⟩

theorem law_patches2 (v0 : Value) (x0 : Int) (v1 : Value) (x1 : Int) (v2 : Value) (x2 : Int) (w : World) (h0 : ∃ (y : Int) (a : Option Addr) (c : Nat) (L : List (List Col)), v0 = canV x0 y (.slice a L.length c) ∧ Tiles w (.slice a L.length c) L ∧ (-9223372036854775808 ≤ x0 ∧ x0 ≤ 9223372036854775807) ∧ (-9223372036854775808 ≤ y ∧ y ≤ 9223372036854775807)) (h1 : ∃ (y : Int) (a : Option Addr) (c : Nat) (L : List (List Col)), v1 = canV x1 y (.slice a L.length c) ∧ Tiles w (.slice a L.length c) L ∧ (-9223372036854775808 ≤ x1 ∧ x1 ≤ 9223372036854775807) ∧ (-9223372036854775808 ≤ y ∧ y ≤ 9223372036854775807)) (h2 : ∃ (y : Int) (a : Option Addr) (c : Nat) (L : List (List Col)), v2 = canV x2 y (.slice a L.length c) ∧ Tiles w (.slice a L.length c) L ∧ (-9223372036854775808 ≤ x2 ∧ x2 ≤ 9223372036854775807) ∧ (-9223372036854775808 ≤ y ∧ y ≤ 9223372036854775807)) :
    Calls Try.prog 7 #[v0, v1, v2] w fun e w' => e = .returned (.bool true) ∧ Below w.heap.size w w' := by
  obtain ⟨y0, a0, c0, L0, rfl, t0, _⟩ := h0
  obtain ⟨y1, a1, c1, L1, rfl, t1, _⟩ := h1
  obtain ⟨y2, a2, c2, L2, rfl, t2, _⟩ := h2
  exact law_patches x0 y0 x1 y1 x2 y2 _ _ _ L0 L1 L2 w t0 t1 t2

end Go.Proofs.Ytneajhldmecllaa
