/- gessolaw01.OctetRows: its walk. -/
import Derived.Test.YtpooakhmpfbmgaaOctAny
namespace Go.Proofs.Ytpooakhmpfbmgaa
open Go.RowKit

theorem osize_yes (v : Value) (xs : List Int) (w : World) (h : IntsS w v xs) (hl : xs.length ≤ 1000) (hr : allW xs = true) :
    Calls Try.prog 27 #[v] w fun e w' => e = .returned (.tuple #[.int .i64 (sumW xs), .int .i64 0]) ∧ Below w.heap.size w w' := by
  have := osize_any v xs w h hl
  unfold sizeV sizeNo at this
  rwa [hr] at this
theorem osize_no (v : Value) (xs : List Int) (w : World) (h : IntsS w v xs) (hl : xs.length ≤ 1000) (hr : allW xs = false) :
    Calls Try.prog 27 #[v] w fun e w' => e = .returned (.tuple #[.int .i64 0, .int .i64 111]) ∧ Below w.heap.size w w' := by
  have := osize_any v xs w h hl
  unfold sizeV sizeNo at this
  rwa [hr] at this

/-- what the law of rows knows of what came in, and of its copies -/
structure RwInv (w W : World) (v0 v1 v2 x7 x8 x9 : Value) (xs : List Int) (ns : List Nat) (zs X9 : List UInt8) (i j : Nat) : Prop where
  bel : Below w.heap.size w W
  i0 : IntsS W v0 xs
  i1 : U64S W v1 ns
  i2 : Bytes W v2 zs
  i7 : IntsS W x7 (xs.take i)
  i8 : U64S W x8 (ns.take j)
  i9 : Bytes W x9 X9
theorem RwInv.below {w W W' : World} {v0 v1 v2 x7 x8 x9 : Value} {xs : List Int} {ns : List Nat} {zs X9 : List UInt8} {i j : Nat} (h : RwInv w W v0 v1 v2 x7 x8 x9 xs ns zs X9 i j) (hb : Below W.heap.size W W') : RwInv w W' v0 v1 v2 x7 x8 x9 xs ns zs X9 i j :=
  ⟨Below.up h.bel hb, h.i0.below hb, h.i1.below hb, h.i2.below hb, h.i7.below hb, h.i8.below hb, h.i9.below hb⟩

set_option maxRecDepth 100000 in
set_option maxHeartbeats 4000000 in
theorem law_rows (v0 : Value) (xs : List Int) (v1 : Value) (ns : List Nat) (v2 : Value) (zs : List UInt8) (w : World) (h0 : IntsS w v0 xs) (h1 : U64S w v1 ns ∧ ∀ n ∈ ns, n < 18446744073709551616) (h2 : Bytes w v2 zs) :
    Calls Try.prog 5 #[v0, v1, v2] w fun e w' => e = .returned (.bool true) ∧ Below w.heap.size w w' := by
  obtain ⟨a0, c0, rfl, hc0, hm0⟩ := IsSl.shape h0
  obtain ⟨a1, c1, rfl, hc1, hm1⟩ := IsSl.shape h1.1
  obtain ⟨a2, c2, rfl, hc2, hm2⟩ := IsSl.shape h2
  obtain ⟨h1, h64⟩ := h1
  go_enter Try.func5, Try.ntmps5
  go_wp2_with fail
  refine (wakes_any _).mono ?_
  rintro e W1 ⟨rfl, B1⟩
  have k0 := h0.below B1
  have k1 := h1.below B1
  have k2 := h2.below B1
  clear h0 h1 h2
  go_upto_region 3 with fail
  have ud := (Below.refl W1.heap.size W1).drew
  refine wp_region_segs 13 [.q [0, 1, 2, 3, 4, 6, 7, 8, 9, 10, 12], .e 5, .e 11] (fun w'' => Below W1.heap.size W1 w'') (by kernel_rfl) (by kernel_rfl) (fun _ _ d _ _ h => by cases d <;> exact h) ?_
  refine ⟨ud, ?_⟩
  show wpQuiet _ _ _ _ [_, _, _, _, _, _, _, _, _, _, _] _
  repeat (first | ((first | (refine wq_min xs.length 8 rfl rfl rfl ?_; intro i8 hi1 hi2 _) | (refine wq_min ns.length 8 rfl rfl rfl ?_; intro j8 hj1 hj2 _) | (refine wq_slice_hT i8 ht_int sz_int rfl rfl rfl hi1 hc0 ?_; intro s1 t1 hU1) | (refine wq_slice_hT j8 ht_u64 sz_u64 rfl rfl rfl hj1 hc1 ?_; intro s2 t2 hU2)); simp only [Act.put, List.setIfInBounds_toArray, List.set_cons_succ, List.set_cons_zero]) | go_big_quiet_step ((intros; rfl)) | quiet_step ((intros; rfl)) | (refine wq_loadB rfl rfl (by kernel_rfl) (by assumption) ?_; simp only [Act.put, List.setIfInBounds_toArray, List.set_cons_succ, List.set_cons_zero]))
  refine wpQuiet_nil ?_
  show wpList _ _ _ [_] _ _
  go_wp2_with fail
  refine (clone_int _ _ _ (IntsS.cut hU1 (k0.below ud) hi1) (by simp; omega)).mono ?_
  rintro e W2 ⟨x7, rfl, ho7, B2⟩
  have u2 := Below.up ud B2
  go_wp2
  refine ⟨u2, ?_⟩
  show wpList _ _ _ [_] _ _
  go_wp2_with fail
  refine (clone_uint64 _ _ _ (U64S.cut hU2 (k1.below u2) hj1) (by simp; omega)).mono ?_
  rintro e W3 ⟨x8, rfl, ho8, B3⟩
  have u3 := Below.up u2 B3
  go_wp2
  refine ⟨u3, ?_⟩
  show wpList _ _ _ [_, _, _, _] _ _
  go_wp2_with fail
  refine (few_any _ zs _ (k2.below u3)).mono ?_
  rintro e W4 ⟨x9, rfl, ho9, B4⟩
  obtain ⟨X9, hX9⟩ : ∃ X9, zs.take 60 = X9 := ⟨_, rfl⟩
  have hX60 : X9.length ≤ 60 := by rw [← hX9]; simp; omega
  rw [hX9] at ho9
  have HX := Lib.hid hX9
  have u4 := Below.up u3 B4
  have I4 : RwInv w W4 (.slice a0 xs.length c0) (.slice a1 ns.length c1) (.slice a2 zs.length c2) x7 x8 x9 xs ns zs X9 i8 j8 :=
    ⟨Below.up B1 u4, k0.below u4, k1.below u4, k2.below u4, ((IsSl.of_own ho7 : IntsS _ _ _).below B3).below B4, (IsSl.of_own ho8 : U64S _ _ _).below B4, ho9.bytes⟩
  clear hX9 ud u2 u3 u4 B1 B2 B3 B4 k0 k1 k2 ho7 ho8 ho9 hU1 hU2
  have hXs : (xs.take i8).length = i8 := by rw [List.length_take, Nat.min_eq_left hi1]
  have hNs : (ns.take j8).length = j8 := by rw [List.length_take, Nat.min_eq_left hj1]
  obtain ⟨b7, d7, rfl, hc7, hm7⟩ := IsSl.shape I4.i7
  obtain ⟨b8, d8, rfl, hc8, hm8⟩ := IsSl.shape I4.i8
  obtain ⟨b9, d9, rfl, hc9, hm9⟩ := IsSl.shape I4.i9
  rw [hXs] at I4 hc7
  rw [hNs] at I4 hc8
  rw [hXs, hNs]
  have HXs := Lib.hid hXs
  have HNs := Lib.hid hNs
  clear hXs hNs
  have hxl : (xs.take i8).length ≤ 1000 := by have := HXs.out; omega
  have h64' : ∀ n ∈ ns.take j8, n < 18446744073709551616 := fun n hn => h64 n (List.mem_of_mem_take hn)
  clear h64
  cases hr : allW (xs.take i8) with
  | false =>
    have hs1 := fun w h => osize_no (.slice b7 i8 d7) (xs.take i8) w h hxl hr
    have hs2 := fun w h => rsize_no (.slice b7 i8 d7) (xs.take i8) w h hxl hr
    clear hr
    go_wp2_with fail
    refine (hs1 _ I4.i7).mono ?_
    rintro e W5 ⟨rfl, B5⟩
    have I5 := I4.below B5
    clear hs1 I4 B5
    go_wp2_with fail
    refine (hs2 _ I5.i7).mono ?_
    rintro e W6 ⟨rfl, rfl⟩
    clear hs2
    obtain ⟨N, hN⟩ : ∃ N, layRNo (xs.take i8) (ns.take j8) = N := ⟨_, rfl⟩
    obtain ⟨V, hV⟩ : ∃ V, layBs (xs.take i8) (ns.take j8) = V := ⟨_, rfl⟩
    obtain ⟨M, hM⟩ : ∃ M, splitNo (xs.take i8) X9.length = M := ⟨_, rfl⟩
    obtain ⟨U, hU⟩ : ∃ U, splitV (xs.take i8) X9 = U := ⟨_, rfl⟩
    have hlay := fun w hw1 hw2 => lay_any (.slice b7 i8 d7) (.slice b8 j8 d8) (xs.take i8) (ns.take j8) w hw1 hw2 hxl h64'
    have hrow := fun w hw1 hw2 => rrows_any (.slice b7 i8 d7) (.slice b8 j8 d8) (xs.take i8) (ns.take j8) w hw1 hw2 hxl h64'
    have hspl := fun w hw1 hw2 => split_any (.slice b7 i8 d7) (.slice b9 X9.length d9) (xs.take i8) X9 w hw1 hw2 hxl
    have hrsp := fun w hw1 hw2 => rsplit_any (.slice b7 i8 d7) (.slice b9 X9.length d9) (xs.take i8) X9 w hw1 hw2 hxl
    rw [hN, hV] at hlay hrow
    rw [hM, hU] at hspl hrsp
    clear hN hV hM hU
    go_wp2_with fail
    refine (hlay _ I5.i7 I5.i8).mono ?_
    rintro e V1 ⟨a14, c14, rfl, o14, D1⟩
    have J1 := I5.below D1
    have o14 := o14.bytes
    clear hlay D1
    go_wp2_with fail
    refine (hrow _ J1.i7 J1.i8).mono ?_
    rintro e V2 ⟨a16, c16, rfl, o16, D2⟩
    have J2 := J1.below D2
    have o14 := o14.below D2
    have o16 := o16.bytes
    clear hrow D2 J1
    go_wp2_with fail
    refine (hspl _ J2.i7 J2.i9).mono ?_
    rintro e V3 ⟨a18, c18, rfl, o18, D3⟩
    have J3 := J2.below D3
    have o14 := o14.below D3
    have o16 := o16.below D3
    have o18 := o18.sl
    clear hspl D3 J2
    go_wp2_with fail
    refine (hrsp _ J3.i7 J3.i9).mono ?_
    rintro e V4 ⟨a20, c20, rfl, o20, D4⟩
    have J4 := J3.below D4
    have o14 := o14.below D4
    have o16 := o16.below D4
    have o18 := o18.below D4
    have o20 := o20.sl
    clear hrsp D4 J3
    go_wp2_with fail
    refine (w_same V _ _ _ o14 o16).mono ?_
    rintro e V5 ⟨rfl, D5⟩
    have J5 := J4.below D5
    have o18 := o18.below D5
    have o20 := o20.below D5
    clear o14 o16 D5 J4
    go_wp2_with fail
    refine (w_equalU U _ _ _ o18 o20).mono ?_
    rintro e V6 ⟨rfl, D6⟩
    have J6 := J5.below D6
    clear o18 o20 D6 J5
    go_wp2_with (refine wl_slice_hT i8 ht_int sz_int rfl rfl rfl hi1 hc0 ?_; intro sa sc hU1)
    refine (w_equalI _ _ _ _ J6.i7 (IntsS.cut hU1 J6.i0 hi1)).mono ?_
    rintro e Wa ⟨rfl, Ba⟩
    have Ia := J6.below Ba
    go_wp2_with (refine wl_slice_hT j8 ht_u64 sz_u64 rfl rfl rfl hj1 hc1 ?_; intro sa2 sc2 hU2)
    refine (w_equalU _ _ _ _ Ia.i8 (U64S.cut hU2 Ia.i1 hj1)).mono ?_
    rintro e Wb ⟨rfl, Bb⟩
    have Ib := Ia.below Bb
    go_wp2_with fail
    refine (few_any _ zs _ Ib.i2).mono ?_
    rintro e Wc ⟨vc, rfl, hoc, Bc⟩
    rw [HX.out] at hoc
    have Ic := Ib.below Bc
    go_wp2_with fail
    refine (w_equal X9 _ _ _ Ic.i9 hoc.bytes).mono ?_
    rintro e Wd ⟨rfl, Bd⟩
    go_wp2
    go_ret
    exact ⟨rfl, (Ic.below Bd).bel⟩
  | true =>
    have hs1 := fun w h => osize_yes (.slice b7 i8 d7) (xs.take i8) w h hxl hr
    have hs2 := fun w h => rsize_yes (.slice b7 i8 d7) (xs.take i8) w h hxl hr
    have HR := Lib.hid hr
    obtain ⟨sm, hsm⟩ : ∃ sm, sumW (xs.take i8) = sm := ⟨_, rfl⟩
    rw [hsm] at hs1 hs2
    have HSM := Lib.hid hsm
    clear hr hsm
    go_wp2_with fail
    refine (hs1 _ I4.i7).mono ?_
    rintro e W5 ⟨rfl, B5⟩
    have I5 := I4.below B5
    clear hs1 I4 B5
    go_wp2_with fail
    refine (hs2 _ I5.i7).mono ?_
    rintro e W6 ⟨rfl, rfl⟩
    clear hs2
    obtain ⟨N, hN⟩ : ∃ N, layRNo (xs.take i8) (ns.take j8) = N := ⟨_, rfl⟩
    obtain ⟨V, hV⟩ : ∃ V, layBs (xs.take i8) (ns.take j8) = V := ⟨_, rfl⟩
    obtain ⟨M, hM⟩ : ∃ M, splitNo (xs.take i8) X9.length = M := ⟨_, rfl⟩
    obtain ⟨U, hU⟩ : ∃ U, splitV (xs.take i8) X9 = U := ⟨_, rfl⟩
    have hlay := fun w hw1 hw2 => lay_any (.slice b7 i8 d7) (.slice b8 j8 d8) (xs.take i8) (ns.take j8) w hw1 hw2 hxl h64'
    have hrow := fun w hw1 hw2 => rrows_any (.slice b7 i8 d7) (.slice b8 j8 d8) (xs.take i8) (ns.take j8) w hw1 hw2 hxl h64'
    have hspl := fun w hw1 hw2 => split_any (.slice b7 i8 d7) (.slice b9 X9.length d9) (xs.take i8) X9 w hw1 hw2 hxl
    have hrsp := fun w hw1 hw2 => rsplit_any (.slice b7 i8 d7) (.slice b9 X9.length d9) (xs.take i8) X9 w hw1 hw2 hxl
    rw [hN, hV] at hlay hrow
    rw [hM, hU] at hspl hrsp
    clear hN hV hM hU
    go_wp2_with fail
    refine (hlay _ I5.i7 I5.i8).mono ?_
    rintro e V1 ⟨a14, c14, rfl, o14, D1⟩
    have J1 := I5.below D1
    have o14 := o14.bytes
    clear hlay D1
    go_wp2_with fail
    refine (hrow _ J1.i7 J1.i8).mono ?_
    rintro e V2 ⟨a16, c16, rfl, o16, D2⟩
    have J2 := J1.below D2
    have o14 := o14.below D2
    have o16 := o16.bytes
    clear hrow D2 J1
    go_wp2_with fail
    refine (hspl _ J2.i7 J2.i9).mono ?_
    rintro e V3 ⟨a18, c18, rfl, o18, D3⟩
    have J3 := J2.below D3
    have o14 := o14.below D3
    have o16 := o16.below D3
    have o18 := o18.sl
    clear hspl D3 J2
    go_wp2_with fail
    refine (hrsp _ J3.i7 J3.i9).mono ?_
    rintro e V4 ⟨a20, c20, rfl, o20, D4⟩
    have J4 := J3.below D4
    have o14 := o14.below D4
    have o16 := o16.below D4
    have o18 := o18.below D4
    have o20 := o20.sl
    clear hrsp D4 J3
    go_wp2_with fail
    refine (w_same V _ _ _ o14 o16).mono ?_
    rintro e V5 ⟨rfl, D5⟩
    have J5 := J4.below D5
    have o18 := o18.below D5
    have o20 := o20.below D5
    clear o14 o16 D5 J4
    go_wp2_with fail
    refine (w_equalU U _ _ _ o18 o20).mono ?_
    rintro e V6 ⟨rfl, D6⟩
    have J6 := J5.below D6
    clear o18 o20 D6 J5
    by_cases hle : sm ≤ X9.length
    · have q1 : decide (sm ≤ X9.length) = true := by simp [hle]
      have ht : (X9.take sm).length = sm := by rw [List.length_take, Nat.min_eq_left hle]
      have HT := Lib.hid ht
      clear ht
      go_wp2_with (refine wl_slice_h sm rfl rfl rfl J6.i9 hle ?_; intro sa sc hsl)
      refine (split_yes _ _ _ _ _ J6.i7 hsl hxl HR.out (by rw [HT.out, HSM.out])).mono ?_
      rintro e V7 ⟨a22, m22, c22, rfl, o22, D7⟩
      have J7 := J6.below D7
      have o22 := o22.sl
      clear D7 J6 hsl
      go_wp2_with (refine wl_slice_h sm rfl rfl rfl J7.i9 hle ?_; intro sa' sc' hsl)
      refine (rsplit_yes _ _ _ _ _ J7.i7 hsl hxl HR.out (by rw [HT.out, HSM.out])).mono ?_
      rintro e V8 ⟨a23, m23, c23, rfl, o23, D8⟩
      have J8 := J7.below D8
      have o22 := o22.below D8
      have o23 := o23.sl
      clear D8 J7 hsl
      go_wp2_with fail
      refine (w_equalU _ _ _ _ o22 o23).mono ?_
      rintro e V9 ⟨rfl, D9⟩
      have J9 := J8.below D9
      clear D9 J8 o22 o23
      go_wp2_with (refine wl_slice_hT i8 ht_int sz_int rfl rfl rfl hi1 hc0 ?_; intro sa sc hU1)
      refine (w_equalI _ _ _ _ J9.i7 (IntsS.cut hU1 J9.i0 hi1)).mono ?_
      rintro e Wa ⟨rfl, Ba⟩
      have Ia := J9.below Ba
      go_wp2_with (refine wl_slice_hT j8 ht_u64 sz_u64 rfl rfl rfl hj1 hc1 ?_; intro sa2 sc2 hU2)
      refine (w_equalU _ _ _ _ Ia.i8 (U64S.cut hU2 Ia.i1 hj1)).mono ?_
      rintro e Wb ⟨rfl, Bb⟩
      have Ib := Ia.below Bb
      go_wp2_with fail
      refine (few_any _ zs _ Ib.i2).mono ?_
      rintro e Wc ⟨vc, rfl, hoc, Bc⟩
      rw [HX.out] at hoc
      have Ic := Ib.below Bc
      go_wp2_with fail
      refine (w_equal X9 _ _ _ Ic.i9 hoc.bytes).mono ?_
      rintro e Wd ⟨rfl, Bd⟩
      go_wp2
      go_ret
      exact ⟨rfl, (Ic.below Bd).bel⟩
    · have q1 : decide (sm ≤ X9.length) = false := by simp; omega
      go_wp2_with (refine wl_slice_hT i8 ht_int sz_int rfl rfl rfl hi1 hc0 ?_; intro sa sc hU1)
      refine (w_equalI _ _ _ _ J6.i7 (IntsS.cut hU1 J6.i0 hi1)).mono ?_
      rintro e Wa ⟨rfl, Ba⟩
      have Ia := J6.below Ba
      go_wp2_with (refine wl_slice_hT j8 ht_u64 sz_u64 rfl rfl rfl hj1 hc1 ?_; intro sa2 sc2 hU2)
      refine (w_equalU _ _ _ _ Ia.i8 (U64S.cut hU2 Ia.i1 hj1)).mono ?_
      rintro e Wb ⟨rfl, Bb⟩
      have Ib := Ia.below Bb
      go_wp2_with fail
      refine (few_any _ zs _ Ib.i2).mono ?_
      rintro e Wc ⟨vc, rfl, hoc, Bc⟩
      rw [HX.out] at hoc
      have Ic := Ib.below Bc
      go_wp2_with fail
      refine (w_equal X9 _ _ _ Ic.i9 hoc.bytes).mono ?_
      rintro e Wd ⟨rfl, Bd⟩
      go_wp2
      go_ret
      exact ⟨rfl, (Ic.below Bd).bel⟩

end Go.Proofs.Ytpooakhmpfbmgaa
