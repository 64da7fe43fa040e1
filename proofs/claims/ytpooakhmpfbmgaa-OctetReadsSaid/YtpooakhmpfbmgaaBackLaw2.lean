/- gessolaw01.OctetBack: its walk. -/
import Derived.Test.YtpooakhmpfbmgaaBackLaw1
import Derived.Test.YtpooakhmpfbmgaaRowsLaw
namespace Go.Proofs.Ytpooakhmpfbmgaa
open Go.RowKit

/-- what the law knows of what came in: it reads so in the world of the call, and the blocks of that world lie as they lay -/
structure BkInv (w W : World) (v7 v8 v2 : Value) (xs : List Int) (ns : List Nat) (zs : List UInt8) : Prop where
  bel : Below w.heap.size w W
  j7 : IntsS w v7 xs
  j8 : U64S w v8 ns
  j2 : Bytes w v2 zs
theorem BkInv.i7 {w W : World} {v7 v8 v2 : Value} {xs : List Int} {ns : List Nat} {zs : List UInt8} (h : BkInv w W v7 v8 v2 xs ns zs) : IntsS W v7 xs := h.j7.below h.bel
theorem BkInv.i8 {w W : World} {v7 v8 v2 : Value} {xs : List Int} {ns : List Nat} {zs : List UInt8} (h : BkInv w W v7 v8 v2 xs ns zs) : U64S W v8 ns := h.j8.below h.bel
theorem BkInv.i2 {w W : World} {v7 v8 v2 : Value} {xs : List Int} {ns : List Nat} {zs : List UInt8} (h : BkInv w W v7 v8 v2 xs ns zs) : Bytes W v2 zs := h.j2.below h.bel
theorem BkInv.below {w W W' : World} {v7 v8 v2 : Value} {xs : List Int} {ns : List Nat} {zs : List UInt8} (h : BkInv w W v7 v8 v2 xs ns zs) (hb : Below W.heap.size W W') : BkInv w W' v7 v8 v2 xs ns zs := ⟨Below.up h.bel hb, h.j7, h.j8, h.j2⟩
theorem below_gb {w W W' : World} {b : Nat} (h : Below w.heap.size w W) (hg : W.grownBy W' (some b)) (hb : w.heap.size ≤ b) : Below w.heap.size w W' :=
  ⟨hg.os.trans h.os, hg.tape.trans h.tape, hg.output.trans h.output, Nat.le_trans h.size hg.size, fun k hk => (hg.block k (Nat.lt_of_lt_of_le hk h.size) (by simp; omega)).trans (h.block k hk)⟩
theorem BkInv.gb {w W W' : World} {v7 v8 v2 : Value} {xs : List Int} {ns : List Nat} {zs : List UInt8} {b : Nat} (h : BkInv w W v7 v8 v2 xs ns zs) (hg : W.grownBy W' (some b)) (hb : w.heap.size ≤ b) : BkInv w W' v7 v8 v2 xs ns zs := ⟨below_gb h.bel hg hb, h.j7, h.j8, h.j2⟩

theorem open_rd (v : Value) (l : List UInt8) (w : World) (h : Bytes w v l) (hl : l.length ≤ 1048576) :
    Calls Try.prog 21 #[v] w fun e w' => ∃ b, e = .returned (.tuple #[.pointer (some ⟨b, 0, none⟩), .int .i64 0]) ∧ Rd w' b l 0 ∧ w.heap.size ≤ b ∧ Below w.heap.size w w' := by
  refine (open_yes v _ w h hl).mono ?_
  rintro e w' ⟨b, bs, rfl, hb, ho, hle, hB⟩
  have hb2 : Bytes w' bs l := OwnB.bytes ho
  obtain ⟨a, c, rfl, _⟩ := IsSl.shape hb2
  exact ⟨b, rfl, ⟨a, c, hb, hb2⟩, hle, hB⟩

set_option maxRecDepth 100000 in
set_option maxHeartbeats 4000000 in
theorem law_back (v0 : Value) (xs0 : List Int) (v1 : Value) (ns0 : List Nat) (v2 : Value) (zs : List UInt8) (w : World) (h0 : IntsS w v0 xs0) (h1 : U64S w v1 ns0 ∧ ∀ n ∈ ns0, n < 18446744073709551616) (h2 : Bytes w v2 zs) :
    Calls Try.prog 6 #[v0, v1, v2] w fun e w' => e = .returned (.bool true) ∧ Below w.heap.size w w' := by
  obtain ⟨a0, c0, rfl, hc0, hm0⟩ := IsSl.shape h0
  obtain ⟨a1, c1, rfl, hc1, hm1⟩ := IsSl.shape h1.1
  obtain ⟨a2, c2, rfl, hc2, hm2⟩ := IsSl.shape h2
  obtain ⟨h1, h64⟩ := h1
  go_enter Try.func6, Try.ntmps6
  go_wp2_with fail
  refine (wakes_any _).mono ?_
  rintro e W1 ⟨rfl, B1⟩
  go_upto_region 3 with fail
  refine wp_region_cuts [.q [_, _, _, _, _, _, _, _, _, _, _]] [_] rfl (fun w'' => Below W1.heap.size W1 w'') (by kernel_rfl) (by kernel_rfl) (fun _ _ d _ _ h => by cases d <;> exact h) ?_
  refine cut_q (Below.refl _ W1).drew ?_
  repeat (first | ((first | (refine wq_min xs0.length 12 rfl rfl rfl ?_; intro i8 hi1 hi2 _) | (refine wq_min ns0.length 12 rfl rfl rfl ?_; intro j8 hj1 hj2 _) | (refine wq_slice_hT i8 ht_int sz_int rfl rfl rfl hi1 hc0 ?_; intro s1 t1 hU1) | (refine wq_slice_hT j8 ht_u64 sz_u64 rfl rfl rfl hj1 hc1 ?_; intro s2 t2 hU2)); simp only [Act.put, List.setIfInBounds_toArray, List.set_cons_succ, List.set_cons_zero]) | go_big_quiet_step ((intros; rfl)) | quiet_step ((intros; rfl)) | (refine wq_loadB rfl rfl (by kernel_rfl) (by assumption) ?_; simp only [Act.put, List.setIfInBounds_toArray, List.set_cons_succ, List.set_cons_zero]))
  refine wpQuiet_nil ?_
  have ud := (Below.refl W1.heap.size W1).drew
  refine cut_end ?_
  have j7 := IntsS.cut hU1 h0 hi1
  have j8' := U64S.cut hU2 h1 hj1
  have hXs : (xs0.take i8).length = i8 := by rw [List.length_take, Nat.min_eq_left hi1]
  have hNs : (ns0.take j8).length = j8 := by rw [List.length_take, Nat.min_eq_left hj1]
  have hn64 : ∀ n ∈ ns0.take j8, n < 18446744073709551616 := fun n hn => h64 n (List.mem_of_mem_take hn)
  obtain ⟨xs, hxs⟩ : ∃ xs, xs0.take i8 = xs := ⟨_, rfl⟩
  obtain ⟨ns, hns⟩ : ∃ ns, ns0.take j8 = ns := ⟨_, rfl⟩
  rw [hxs] at j7 hXs
  rw [hns] at j8' hNs hn64
  subst hXs hNs
  have I1 : BkInv w W1.drew (.slice s1 xs.length t1) (.slice s2 ns.length t2) (.slice a2 zs.length c2) xs ns zs := ⟨Below.up B1 ud, j7, j8', h2⟩
  have hxl : xs.length ≤ 1000 := by omega
  clear hxs hns hU1 hU2 h0 h1 h64 j7 j8' ud B1 h2
  go_wp2_with fail
  obtain ⟨W2, hW2⟩ : ∃ W2, W1.drew = W2 := ⟨_, rfl⟩
  rw [hW2] at I1 ⊢
  clear hW2
  clear W1
  obtain ⟨N, hN⟩ : ∃ N, layRNo xs ns = N := ⟨_, rfl⟩
  by_cases hN0 : N = 0
  · subst hN0
    obtain ⟨g1, g2, g3⟩ := layRNo_zero hN
    have hbl := layR_len2 xs ns g2
    have hle := sumW_le xs g1
    have hsl := split_lay xs ns g2 g3
    have hget := splitR_get xs (layR xs ns)
    rw [hsl] at hget
    refine (lay_yes _ _ xs ns _ I1.i7 I1.i8 hxl g1 g2 g3).mono ?_
    rintro e W3 ⟨a9, m9, c9, rfl, o9, B3⟩
    obtain ⟨L, hL⟩ : ∃ L, layR xs ns = L := ⟨_, rfl⟩
    rw [hL] at o9 hbl hsl hget
    have I3 := I1.below B3
    have o9 := o9.bytes
    obtain rfl := o9.at
    have G1 := Lib.hid g1
    have G2 := Lib.hid g2
    have HBL := Lib.hid hbl
    have HSL := Lib.hid hsl
    have HGET := Lib.hid hget
    clear g1 g2 g3 hbl hsl hget hL hN I1 B3
    go_wp2_with fail
    refine (split_yes _ _ xs L _ I3.i7 o9 hxl G1.out HBL.out).mono ?_
    rintro e W4 ⟨a11, m11, c11, rfl, o11, B4⟩
    rw [HSL.out] at o11
    have I4 := I3.below B4
    have o9 := o9.below B4
    have o11 := o11.sl
    clear I3 B4
    go_wp2_with fail
    refine (osize_yes _ xs _ I4.i7 hxl G1.out).mono ?_
    rintro e W5 ⟨rfl, B5⟩
    rw [← HBL.out]
    have I5 := I4.below B5
    have o9 := o9.below B5
    have o11 := o11.below B5
    clear I4 B5
    go_wp2_with fail
    refine (open_rd _ L _ o9 (by have := HBL.out; omega)).mono ?_
    rintro e W6 ⟨rb, rfl, hr6, hrb, B6⟩
    have I6 := I5.below B6
    have o11 := o11.below B6
    have hrbw : w.heap.size ≤ rb := by have := I5.bel.size; omega
    clear I5 B6 hrb
    go_wp2_with fail
    refine (w_equalU ns _ _ _ o11 I6.i8).mono ?_
    rintro e W7 ⟨rfl, B7⟩
    have I7 := I6.below B7
    have hr7 := hr6.below B7
    clear I6 hr6 B7 o11
    go_wp2
    go_loopw [83] (fun i wx => ∃ k : Nat, k ≤ xs.length ∧ i = .int .i64 k ∧ Rd wx rb (L.drop (sumW (xs.take k))) 0 ∧ BkInv w wx (.slice s1 xs.length t1) (.slice s2 ns.length t2) (.slice a2 zs.length c2) xs ns zs) (fun i _ => xs.length - (intOf i).toNat)
    case atStart => exact ⟨0, Nat.zero_le _, rfl, by simpa [sumW] using hr7, I7⟩
    case round =>
      obtain ⟨k, hk, rfl, hrk, Ik⟩ := hrel
      by_cases hlt : k < xs.length
      · have hlt2 : k < ns.length := by have := G2.out; omega
        obtain ⟨b1, o1, rfl, x1⟩ := Ik.i7.get hlt
        obtain ⟨b2, o2, rfl, x2⟩ := Ik.i8.get hlt2
        obtain ⟨y, hy, g1, g2⟩ := okW_nat (allW_get G1.out k hlt)
        have hmono := sumW_mono xs k hlt
        have hge := HGET.out k hlt
        rw [hy] at x1 hmono hge
        rw [Int.toNat_natCast] at hmono hge
        rw [List.getElem?_eq_getElem hlt2, Option.some.injEq] at hge
        rw [hge] at x2
        have hgz := hge
        have hrd := rdNum_ok (L.drop (sumW (xs.take k))) y g1 g2 (by have := HBL.out; rw [List.length_drop]; omega)
        have HW := Lib.hid (show L.drop (sumW (xs.take (k + 1))) = (L.drop (sumW (xs.take k))).drop y from by rw [take_snoc xs k hlt, sumW_snoc, hy, Int.toNat_natCast, List.drop_drop])
        obtain ⟨z, hz⟩ : ∃ z, numB ((L.drop (sumW (xs.take k))).take y) = z := ⟨_, rfl⟩
        rw [hz] at x2 hrd hgz
        have HZ := Lib.hid hgz
        clear hgz
        have hnum := fun w h => number_any rb (L.drop (sumW (xs.take k)), 0) y w h
        rw [hrd] at hnum
        clear hy hge hrd hz
        go_upto_region 14 with fail
        have ud := (Below.refl wr.heap.size wr).drew
        refine wp_region_segs 7 [.q [0, 1, 3, 4, 5, 6], .e 2] (fun w'' => w''.cell? ⟨b2, o2 + k, none⟩ = some (cU z)) (by kernel_rfl) (by kernel_rfl) (fun _ _ d _ _ h => by cases d <;> exact h) ?_
        refine ⟨x2, ?_⟩
        show wpQuiet _ _ _ _ [_, _, _, _, _, _] _
        repeat (first | (refine wq_load1 rfl rfl (by kernel_rfl) (fun _ h => h) ?_; simp only [Act.put, List.setIfInBounds_toArray, List.set_cons_succ, List.set_cons_zero]) | go_big_quiet_step ((intros; rfl)) | quiet_step ((intros; rfl)) | (refine wq_loadB rfl rfl (by kernel_rfl) (by assumption) ?_; simp only [Act.put, List.setIfInBounds_toArray, List.set_cons_succ, List.set_cons_zero]))
        refine wpQuiet_nil ?_
        show wpList _ _ _ [_] _ _
        go_wp2_with fail
        refine (hnum _ (hrk.below ud)).mono ?_
        rintro e W8 ⟨rfl, hg8, hr8⟩
        have I8 := (Ik.below ud).gb hg8 hrbw
        have x8 : W8.cell? ⟨b2, o2 + k, none⟩ = some (cU z) := by
          obtain ⟨p, o, e, hc⟩ := I8.i8.get hlt2
          cases e
          rw [HZ.out] at hc
          exact hc
        clear hnum
        go_wp2
        refine ⟨x8, ?_⟩
        show wpList _ _ _ [_] _ _
        go_wp2
        go_roundw
        case rel => exact ⟨k + 1, by omega, by go_num, by rw [HW.out]; exact hr8, I8⟩
        case measure => simp only [intOf]; omega
      · obtain rfl : k = xs.length := by omega
        rw [List.take_length, ← HBL.out, List.drop_of_length_le (Nat.le_refl _)] at hrk
        go_wp2_with fail
        refine (w_end rb _ hrk).mono ?_
        rintro e W8 ⟨rfl, B8⟩
        have I8 := Ik.below B8
        obtain ⟨M, hM⟩ : ∃ M, splitNo xs zs.length = M := ⟨_, rfl⟩
        by_cases hM0 : M = 0
        · subst hM0
          obtain ⟨s1, s2⟩ := splitNo_zero hM
          obtain ⟨r1, r2⟩ := lay_split xs zs s2
          have r3 := splitR_lt xs zs s1
          have r4 := splitR_len xs zs
          have S1 := Lib.hid s1
          have S2 := Lib.hid s2
          have R1 := Lib.hid r1
          have R2 := Lib.hid r2
          have R4 := Lib.hid r4
          clear s1 s2 r1 r2 r4 hM
          go_wp2_with fail
          refine (split_yes _ _ xs zs _ I8.i7 I8.i2 hxl S1.out S2.out).mono ?_
          rintro e Va ⟨aa, ma, ca, rfl, oa, Da⟩
          have Ja := I8.below Da
          have oa := oa.sl
          go_wp2_with fail
          refine (lay_yes _ _ xs _ _ Ja.i7 oa hxl S1.out R4.out R2.out).mono ?_
          rintro e Vb ⟨ab, mb, cb, rfl, ob, Db⟩
          have Jb := Ja.below Db
          rw [R1.out] at ob
          go_wp2_with fail
          refine (w_equal zs _ _ _ ob.bytes Jb.i2).mono ?_
          rintro e Vc ⟨rfl, Dc⟩
          go_wp2
          go_ret
          exact ⟨rfl, (Jb.below Dc).bel⟩
        · have hMq : (M == 0) = false := by simpa using hM0
          have hspl := split_no _ _ xs zs _ I8.i7 I8.i2 hxl (by rw [hM]; exact hM0)
          rw [hM] at hspl
          clear hM hM0
          go_wp2_with fail
          refine hspl.mono ?_
          rintro e Va ⟨rfl, Da⟩
          go_wp2
          go_ret
          exact ⟨rfl, (I8.below Da).bel⟩
  · have hNq : (N == 0) = false := by simpa using hN0
    have hlay := lay_no _ _ xs ns _ I1.i7 I1.i8 hxl hn64 (by rw [hN]; exact hN0)
    rw [hN] at hlay
    clear hN hN0
    refine hlay.mono ?_
    rintro e W3 ⟨rfl, B3⟩
    have I3 := I1.below B3
    clear hlay
    obtain ⟨M, hM⟩ : ∃ M, splitNo xs zs.length = M := ⟨_, rfl⟩
    by_cases hM0 : M = 0
    · subst hM0
      obtain ⟨s1, s2⟩ := splitNo_zero hM
      obtain ⟨r1, r2⟩ := lay_split xs zs s2
      have r3 := splitR_lt xs zs s1
      have r4 := splitR_len xs zs
      have S1 := Lib.hid s1
      have S2 := Lib.hid s2
      have R1 := Lib.hid r1
      have R2 := Lib.hid r2
      have R4 := Lib.hid r4
      clear s1 s2 r1 r2 r4 hM
      go_wp2_with fail
      refine (split_yes _ _ xs zs _ I3.i7 I3.i2 hxl S1.out S2.out).mono ?_
      rintro e Va ⟨aa, ma, ca, rfl, oa, Da⟩
      have Ja := I3.below Da
      have oa := oa.sl
      go_wp2_with fail
      refine (lay_yes _ _ xs _ _ Ja.i7 oa hxl S1.out R4.out R2.out).mono ?_
      rintro e Vb ⟨ab, mb, cb, rfl, ob, Db⟩
      have Jb := Ja.below Db
      rw [R1.out] at ob
      go_wp2_with fail
      refine (w_equal zs _ _ _ ob.bytes Jb.i2).mono ?_
      rintro e Vc ⟨rfl, Dc⟩
      go_wp2
      go_ret
      exact ⟨rfl, (Jb.below Dc).bel⟩
    · have hMq : (M == 0) = false := by simpa using hM0
      have hspl := split_no _ _ xs zs _ I3.i7 I3.i2 hxl (by rw [hM]; exact hM0)
      rw [hM] at hspl
      clear hM hM0
      go_wp2_with fail
      refine hspl.mono ?_
      rintro e Va ⟨rfl, Da⟩
      go_wp2
      go_ret
      exact ⟨rfl, (I3.below Da).bel⟩

end Go.Proofs.Ytpooakhmpfbmgaa
