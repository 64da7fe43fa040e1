/- gessolaw10.RunsBack: its walk. -/
import Derived.Test.YtneajhldmecllaaCon10
namespace Go.Proofs.Ytneajhldmecllaa
open Go.RowKit

structure BkInv (w W : World) (T : List Col) (x y : Int) (v1 : Value) (L : List (List Col)) (v2 : Value) (M : List UInt8) : Prop where
  bel : Below w.heap.size w W
  bT : Blk W w.heap.size (tcells T) 29
  bC : Blk W (w.heap.size + 1) #[.int .i64 x, .int .i64 y, v1] 43
  ts : Tiles W v1 L
  bs : Bytes W v2 M
theorem BkInv.below {w W W' : World} {T : List Col} {x y : Int} {v1 v2 : Value} {L : List (List Col)} {M : List UInt8} (h : BkInv w W T x y v1 L v2 M) (hb : Below W.heap.size W W') : BkInv w W' T x y v1 L v2 M :=
  ⟨Below.up h.bel hb, Blk.up h.bT hb, Blk.up h.bC hb, h.ts.below hb, h.bs.below hb⟩

set_option maxRecDepth 100000 in
set_option maxHeartbeats 2000000 in
theorem law_back (T : List Col) (hT : T.length = 64) (x y : Int) (v1 v2 : Value) (L : List (List Col)) (m : List UInt8) (w : World) (h1 : Tiles w v1 L) (h2 : Bytes w v2 m) :
    Calls Try.prog 5 #[tileV T, canV x y v1, v2] w fun e w' => e = .returned (.bool true) ∧ Below w.heap.size w w' := by
  obtain ⟨a1, c1, rfl, hc1, hm1⟩ := h1.slice
  have h2' := h2
  obtain ⟨a2, c2, rfl, hc2, hm2, _⟩ := h2'
  unfold maxLen at hm1 hm2
  have hel := enc_len T hT
  have hrl := runsOf_le T hT
  have hr1 : 1 ≤ runsOf T := by unfold runsOf; omega
  have hl : 5 ≤ (enc T).length ∧ (enc T).length ≤ 325 := by omega
  obtain ⟨hl1, hl2⟩ := hl
  have hq5 : (((enc T).length : Int) != 5 * (runsOf T : Int)) = false := by rw [bne_eq_false_iff_eq]; omega
  clear hel hr1
  have I0 : BkInv w ((w.alloc (.cells (tcells T) 29)).alloc (.cells #[.int .i64 x, .int .i64 y, .slice a1 L.length c1] 43)) T x y (.slice a1 L.length c1) L (.slice a2 m.length c2) m := by
    have hB2 : Below w.heap.size w ((w.alloc (.cells (tcells T) 29)).alloc (.cells #[.int .i64 x, .int .i64 y, .slice a1 L.length c1] 43)) := by repeat (first | assumption | exact Below.refl _ _ | refine below_dN ?_ _ | refine Below.alloc ?_ (by first | exact Nat.le_refl _ | omega | (simp; done) | (simp; omega)) _ | refine Below.setCell ?_ (by first | exact Nat.le_refl _ | omega | (simp; done) | (simp; omega)) _ | refine Below.drew ?_ | refine Below.trans ?_ (Below.mono (by assumption) (by first | exact Nat.le_refl _ | omega | (simp; done) | (simp; omega))))
    have k1 := Blk.new (w.alloc (.cells (tcells T) 29)) #[.int .i64 x, .int .i64 y, .slice a1 L.length c1] 43
    simp only [World.size_alloc] at k1
    exact ⟨hB2, (Blk.new w _ _).alloc _, k1, h1.below hB2, h2.below hB2⟩
  unfold tileV
  go_enter Try.func5, Try.ntmps5
  go_wp2_with fail
  refine (wakes_any _).mono ?_
  rintro e W1 ⟨rfl, hB1⟩
  have I1 := I0.below hB1
  clear I0 hB1 h1 h2
  go_upto_region 4 with (refine wl_min m.length 6000 rfl rfl rfl ?_; intro k hk1 hk2 hk3)
  have h2k := I1.bs.part hk1
  obtain ⟨M, hM⟩ : ∃ M, m.take k = M := ⟨_, rfl⟩
  have hMl : M.length = k := by rw [← hM]; simp; omega
  rw [hM] at h2k
  clear hM
  subst hMl
  clear hk3
  have I2 : BkInv w W1 T x y (.slice a1 L.length c1) L (.slice a2 M.length c2) M := ⟨I1.bel, I1.bT, I1.bC, I1.ts, h2k⟩
  clear I1 h2k
  refine gen_code (fun W => BkInv w W T x y (.slice a1 L.length c1) L (.slice a2 M.length c2) M) I2 ?_
  clear I2
  intro W2 I2
  have bT2 := I2.bT.tileAt
  go_wp2_with (refine wl_load_tile rfl rfl hT bT2 ?_)
  refine (c_tile T hT _).mono ?_
  rintro e W3 ⟨a7, c7, rfl, h7, hB3⟩
  have I3 := I2.below hB3
  obtain ⟨hc7, hm7⟩ := h7.cap
  go_wp2_with fail
  refine (clone_bytes _ (enc T) _ h7 (by omega)).mono ?_
  rintro e W4 ⟨v36, rfl, ho36, hB4⟩
  have I4 := I3.below hB4
  go_wp2_with (refine wl_append_bytes W3.heap.size rfl rfl rfl ho36 I4.bs (by omega) hB4.size ?_; intro v38 W5 ho38 hB5')
  have hB35 : Below W3.heap.size W3 W5 := hB4.trans hB5'
  refine (c_readtile_yes _ _ T (enc T).length _ ho38.bytes (read_enc T hT M)).mono ?_
  rintro e W6 ⟨rfl, hB6⟩
  have hB36 := Below.up hB35 hB6
  have I6 := I3.below hB36
  have h76 := h7.below hB36
  clear h7 hB6 hB35 hB36 hB5' I4 I3 I2 ho36 ho38 hB4 hB3
  go_upto_region 6 with (first | refine wl_alloc_tile rfl ?_ | refine wl_store_tile_new rfl rfl rfl rfl (by rfl) hT ?_)
  have bN := Blk.new W6 (tcells T) 29
  have I7 := I6.below (Below.new W6 (.cells (tcells T) 29))
  have h77 := h76.below (Below.new W6 (.cells (tcells T) 29))
  have bT7 := I7.bT.tileAt
  go_wp2_with (first | refine wl_load_tile rfl rfl hT bN.tileAt ?_ | refine wl_load_tile rfl rfl hT bT7 ?_ | refine wl_neq_tile rfl rfl rfl hT hT ?_)
  refine (runs_any T hT _).mono ?_
  rintro e W8 ⟨rfl, hB8⟩
  have I8 := I7.below hB8
  have h78 := h77.below hB8
  have bT8 := I8.bT.tileAt
  go_wp2_with (first | refine wl_load_tile rfl rfl hT bT8 ?_ | (refine wl_buildSlice_tiles1 rfl rfl hT ?_; intro W9 v9 hB9 ht9))
  refine (c_size _ T hT _ ht9).mono ?_
  rintro e W10 ⟨rfl, hB10⟩
  have hB810 := Below.up hB9 hB10
  have I10 := I8.below hB810
  have h710 := h78.below hB810
  clear hB810 hB9 hB10 ht9 bT8 h78 I8 hB8 bT7 h77 I7 bN h76 I6 bT2
  obtain ⟨n', hn'⟩ : ∃ n', (enc T).length = n' + 1 := ⟨(enc T).length - 1, by omega⟩
  have hn7 : n' ≤ c7 := by omega
  have hsub : ((enc T).length : Int) - 1 = (n' : Int) := by omega
  have hr := read_short T hT n' (by omega)
  have h7p := h710.part (k := n') (by omega)
  have HR := Lib.hid hr
  have HN := Lib.hid hn'
  clear hr hn'
  go_upto_region 8 with fail
  go_wp2_with fail
  refine (c_readtile_no _ _ _ h7p HR.out).mono ?_
  rintro e W11 ⟨rfl, hB11⟩
  go_upto_region 11 with (first | refine wl_alloc_tile rfl ?_ | refine wl_store_tile_new rfl rfl rfl rfl (by rfl) noTile_len ?_)
  have I11 := I10.below (Below.upA hB11 (.cells (tcells noTile) 29))
  clear hB11 I10 h710 h7p hsub
  obtain ⟨p0, p1, p2⟩ := I11.bC.all
  go_wp2_with fail
  refine (c_own x y _ L _ I11.ts).mono ?_
  rintro e W12 ⟨a14, c14, N, rfl, ho14, HN14, hN17, hB12⟩
  go_upto_region 12 with fail
  clear p0 p1 p2
  have k14 := Blk.new W12 #[.int .i64 x, .int .i64 y, .slice a14 N.length c14] 43
  have I13 := I11.below (Below.upA hB12 (.cells #[.int .i64 x, .int .i64 y, .slice a14 N.length c14] 43))
  have t14 := ho14.tiles.below (Below.new W12 (.cells #[.int .i64 x, .int .i64 y, .slice a14 N.length c14] 43))
  clear I11 hB12 HN14 ho14
  obtain ⟨p14, hp14⟩ : ∃ p, W12.heap.size = p := ⟨_, rfl⟩
  rw [hp14] at k14 ⊢
  clear hp14
  refine gen_code (fun W => BkInv w W T x y (.slice a1 L.length c1) L (.slice a2 M.length c2) M ∧ Blk W p14 #[.int .i64 x, .int .i64 y, .slice a14 N.length c14] 43 ∧ Tiles W (.slice a14 N.length c14) N) ⟨I13, k14, t14⟩ ?_
  clear I13 k14 t14
  rintro W13 ⟨I13, k14, t14⟩
  obtain ⟨p0, p1, p2⟩ := k14.all
  cases hok : canOk x y N.length with
  | false =>
    have HOK := Lib.hid hok
    clear hok
    go_wp2_with fail
    refine (c_canvas_no x y _ N _ t14 (by omega) HOK.out).mono ?_
    rintro e W14 ⟨a15, c15, rfl, h15, hB14⟩
    have IT := I13.below hB14
    clear p0 p1 p2 k14 t14 h15 hB14 I13
    go_upto_region 18 with fail
    cases hr : readCan M with
    | none =>
      have HR2 := Lib.hid hr
      clear hr
      go_wp2_with fail
      refine (c_readcan_no _ _ _ IT.bs HR2.out).mono ?_
      rintro e W20 ⟨rfl, hB20⟩
      go_wp2
      go_ret
      exact ⟨rfl, (IT.below (Below.upA hB20 _)).bel⟩
    | some p =>
      obtain ⟨ra, rb, A, n⟩ := p
      obtain ⟨q1, q2, q3, q4, q5, q6, q7⟩ := readcan_own _ _ _ _ _ hr
      have hok2 : canOk ra rb A.length = true := by
        unfold canOk; rw [q3, Int.natCast_mul]; simp; omega
      have hA16 : A.length ≤ 1000 := by have := Nat.mul_le_mul q1.2 q2.2; omega
      obtain ⟨hM1, hM2⟩ := IT.bs.cap
      have hnc : n ≤ c2 := by omega
      have HR2 := Lib.hid hr
      have HQ3 := Lib.hid q3
      have HQ7 := Lib.hid q7
      have HOK2 := Lib.hid hok2
      clear hr q3 q7 hok2 q4
      go_wp2_with fail
      refine (c_readcan_yes _ _ ra rb A n _ IT.bs HR2.out).mono ?_
      rintro e W20 ⟨a23, c23, rfl, ho23, hB20⟩
      have t23 := ho23.tiles.below (Below.new W20 (.cells #[.int .i64 ra, .int .i64 rb, .slice a23 A.length c23] 43))
      have I20 := IT.below (Below.upA hB20 (.cells #[.int .i64 ra, .int .i64 rb, .slice a23 A.length c23] 43))
      go_wp2_with fail
      refine (c_canvas_yes ra rb _ A _ t23 hA16 HOK2.out).mono ?_
      rintro e W21 ⟨a24, c24, rfl, h24, hB21⟩
      have I21 := I20.below hB21
      have hp21 := I21.bs.part q5
      rw [← HQ7.out] at hp21
      go_wp2_with fail
      refine (w_equal (canvasB ra rb A) _ _ _ h24 hp21).mono ?_
      rintro e W22 ⟨rfl, hB22⟩
      go_wp2
      go_ret
      exact ⟨rfl, (I21.below hB22).bel⟩
  | true =>
    obtain ⟨xa, ya, rfl, rfl, g1, g2, g3, g4, g5⟩ := canOk_nat hok
    have hcl := canvasB_len xa ya N t14.1
    have hMl : M.length ≤ 6000 := by omega
    have hre := readcan_enc xa ya N ⟨g1, g2⟩ ⟨g3, g4⟩ g5 t14.1
    have hrs := readcan_short xa ya N ⟨g1, g2⟩ ⟨g3, g4⟩ g5 t14.1
    have hc2' : 2 ≤ (canvasB xa ya N).length := by unfold canvasB headB; simp
    have HOK := Lib.hid hok
    have HRE := Lib.hid hre
    have HRS := Lib.hid hrs
    have HG := Lib.hid g5
    clear hok hre hrs g5
    go_wp2_with fail
    refine (c_canvas_yes xa ya _ N _ t14 (by omega) HOK.out).mono ?_
    rintro e W14 ⟨a15, c15, rfl, h15, hB14⟩
    have I14 := I13.below hB14
    have k14' := Blk.up k14 hB14
    have t14' := t14.below hB14
    obtain ⟨hc15, hm15⟩ := h15.cap
    clear p0 p1 p2 k14 t14 I13
    go_wp2_with fail
    refine (clone_bytes _ (canvasB xa ya N) _ h15 (by omega)).mono ?_
    rintro e W15 ⟨v92, rfl, ho92, hB15⟩
    have I15 := I14.below hB15
    go_wp2_with (refine wl_append_bytes W14.heap.size rfl rfl rfl ho92 I15.bs (by omega) hB15.size ?_; intro v94 W16 ho94 hB16')
    have hB1416 : Below W14.heap.size W14 W16 := hB15.trans hB16'
    refine (c_readcan_yes _ _ xa ya N _ _ ho94.bytes (HRE.out M)).mono ?_
    rintro e W17 ⟨a17, c17, rfl, ho17, hB17⟩
    have hB1417 := Below.up hB1416 hB17
    have k17 := Blk.new W17 #[.int .i64 xa, .int .i64 ya, .slice a17 N.length c17] 43
    have t17 := ho17.tiles.below (Below.new W17 (.cells #[.int .i64 xa, .int .i64 ya, .slice a17 N.length c17] 43))
    have u17 := Below.upA hB1417 (.cells #[.int .i64 xa, .int .i64 ya, .slice a17 N.length c17] 43)
    have I17 := I14.below u17
    have k1417 := Blk.up k14' u17
    have t1417 := t14'.below u17
    have h1517 := h15.below u17
    clear u17 ho17 hB1417 hB17 hB1416 hB16' ho94 ho92 I15 hB15 h15 t14' k14' I14 hB14
    obtain ⟨z', hz'⟩ : ∃ z', (canvasB xa ya N).length = z' + 1 := ⟨(canvasB xa ya N).length - 1, by omega⟩
    have hzsub : ((canvasB xa ya N).length : Int) - 1 = (z' : Int) := by omega
    have hz15 : z' ≤ c15 := by omega
    have HZ := Lib.hid hz'
    clear hz'
    go_upto_region 15 with fail
    obtain ⟨p17, hp17⟩ : ∃ p, W17.heap.size = p := ⟨_, rfl⟩
    rw [hp17] at k17 ⊢
    clear hp17
    refine gen_code (fun W => BkInv w W T xa ya (.slice a1 L.length c1) L (.slice a2 M.length c2) M ∧ Blk W p14 #[.int .i64 xa, .int .i64 ya, .slice a14 N.length c14] 43 ∧ Tiles W (.slice a14 N.length c14) N ∧ Blk W p17 #[.int .i64 xa, .int .i64 ya, .slice a17 N.length c17] 43 ∧ Tiles W (.slice a17 N.length c17) N ∧ Bytes W (.slice a15 (canvasB xa ya N).length c15) (canvasB xa ya N)) ⟨I17, k1417, t1417, k17, t17, h1517⟩ ?_
    clear I17 k1417 t1417 k17 t17 h1517
    rintro W18 ⟨I18, k14, t14, k17, t17, h15⟩
    have h15p := h15.part (k := z') (by have := HZ.out; omega)
    go_wp2_with fail
    refine (c_readcan_no _ _ _ h15p (HRS.out z' (by have := HZ.out; omega))).mono ?_
    rintro e W19 ⟨rfl, hB19⟩
    have u19 := Below.upA hB19 (.cells #[.int .i64 0, .int .i64 0, .slice none 0 0] 43)
    have I19 := I18.below u19
    have k14' := Blk.up k14 u19
    have k17' := Blk.up k17 u19
    have t14' := t14.below u19
    have t17' := t17.below u19
    clear u19 h15p I18 k14 t14 k17 t17 h15 hzsub hz15 hB19
    obtain ⟨p0, p1, p2⟩ := k14'.all
    obtain ⟨p3, p4, p5⟩ := k17'.all
    go_wp2_with fail
    refine (c_alike xa ya _ _ N _ t14' t17').mono ?_
    rintro e W20 ⟨rfl, hB20⟩
    have IT := I19.below hB20
    clear p0 p1 p2 p3 p4 p5 k14' k17' t14' t17' I19 hB20
    go_upto_region 18 with fail
    cases hr : readCan M with
    | none =>
      have HR2 := Lib.hid hr
      clear hr
      go_wp2_with fail
      refine (c_readcan_no _ _ _ IT.bs HR2.out).mono ?_
      rintro e W20 ⟨rfl, hB20⟩
      go_wp2
      go_ret
      exact ⟨rfl, (IT.below (Below.upA hB20 _)).bel⟩
    | some p =>
      obtain ⟨ra, rb, A, n⟩ := p
      obtain ⟨q1, q2, q3, q4, q5, q6, q7⟩ := readcan_own _ _ _ _ _ hr
      have hok2 : canOk ra rb A.length = true := by
        unfold canOk; rw [q3, Int.natCast_mul]; simp; omega
      have hA16 : A.length ≤ 1000 := by have := Nat.mul_le_mul q1.2 q2.2; omega
      obtain ⟨hM1, hM2⟩ := IT.bs.cap
      have hnc : n ≤ c2 := by omega
      have HR2 := Lib.hid hr
      have HQ3 := Lib.hid q3
      have HQ7 := Lib.hid q7
      have HOK2 := Lib.hid hok2
      clear hr q3 q7 hok2 q4
      go_wp2_with fail
      refine (c_readcan_yes _ _ ra rb A n _ IT.bs HR2.out).mono ?_
      rintro e W20 ⟨a23, c23, rfl, ho23, hB20⟩
      have t23 := ho23.tiles.below (Below.new W20 (.cells #[.int .i64 ra, .int .i64 rb, .slice a23 A.length c23] 43))
      have I20 := IT.below (Below.upA hB20 (.cells #[.int .i64 ra, .int .i64 rb, .slice a23 A.length c23] 43))
      go_wp2_with fail
      refine (c_canvas_yes ra rb _ A _ t23 hA16 HOK2.out).mono ?_
      rintro e W21 ⟨a24, c24, rfl, h24, hB21⟩
      have I21 := I20.below hB21
      have hp21 := I21.bs.part q5
      rw [← HQ7.out] at hp21
      go_wp2_with fail
      refine (w_equal (canvasB ra rb A) _ _ _ h24 hp21).mono ?_
      rintro e W22 ⟨rfl, hB22⟩
      go_wp2
      go_ret
      exact ⟨rfl, (I21.below hB22).bel⟩

theorem law_back2 (v0 : Value) (T : List Col) (v1 : Value) (x : Int) (v2 : Value) (m : List UInt8) (w : World) (h0 : T.length = 64 ∧ v0 = tileV T) (h1 : ∃ (y : Int) (a : Option Addr) (c : Nat) (L : List (List Col)), v1 = canV x y (.slice a L.length c) ∧ Tiles w (.slice a L.length c) L ∧ (-9223372036854775808 ≤ x ∧ x ≤ 9223372036854775807) ∧ (-9223372036854775808 ≤ y ∧ y ≤ 9223372036854775807)) (h2 : Bytes w v2 m) :
    Calls Try.prog 5 #[v0, v1, v2] w fun e w' => e = .returned (.bool true) ∧ Below w.heap.size w w' := by
  obtain ⟨hT, rfl⟩ := h0
  obtain ⟨y, a, c, L, rfl, ht, _⟩ := h1
  exact law_back T hT x y _ v2 L m w ht h2

end Go.Proofs.Ytneajhldmecllaa
