/- gessolaw01.OctetReads: its walk. -/
import Derived.Test.YtpooakhmpfbmgaaReadsInv
import Derived.Test.YtpooakhmpfbmgaaOctRowsB
import Derived.Deep.DeepCutAuto
import Derived.Deep.CutBlock
namespace Go.Proofs.Ytpooakhmpfbmgaa
open Go.RowKit

/-- what a round of b[i]++ knows: the reader is none of it -/
def IncR (w : World) (b1 b2 : Nat) (p bs : Value) (n rb : Nat) (X : List UInt8) (wx : World) (i : Value) : Prop := ∃ (j : Nat) (P : List UInt8), P.length = n ∧ j ≤ n ∧ i = .int .i64 j ∧ OwnB b1 wx p P ∧ Blk wx rb (rdC bs 0) 88 ∧ OwnB b2 wx bs X ∧ Below w.heap.size w wx

set_option maxRecDepth 100000 in
set_option maxHeartbeats 8000000 in
theorem law_reads (v0 : Value) (X0 : List UInt8) (v1 : Value) (L : List Step2) (v2 : Value) (P0 : List UInt8) (w : World) (h0 : Bytes w v0 X0) (h1 : StepsS w v1 L) (h2 : Bytes w v2 P0) :
    Calls Try.prog 7 #[v0, v1, v2] w fun e w' => e = .returned (.bool true) ∧ Below w.heap.size w w' := by
  obtain ⟨a0, c0, rfl, hc0, hm0⟩ := IsSl.shape h0
  obtain ⟨a1, c1, rfl, hc1, hm1⟩ := IsSl.shape h1
  obtain ⟨a2, c2, rfl, hc2, hm2⟩ := IsSl.shape h2
  obtain ⟨X, hX⟩ : ∃ X, X0.take 60 = X := ⟨_, rfl⟩
  have hX60 : X.length ≤ 60 := by rw [← hX]; simp; omega
  have hfew := fun w h => few_any (.slice a0 X0.length c0) X0 w h
  rw [hX] at hfew
  clear hX
  go_enter Try.func7, Try.ntmps7
  go_wp2_with fail
  refine (wakes_any _).mono ?_
  rintro e W1 ⟨rfl, B1⟩
  go_wp2_with (first | (refine wl_min P0.length 65537 rfl rfl rfl ?_; intro q hq1 hq2 _) | (refine wl_slice_hT q ht_byte sz_byte rfl rfl rfl hq1 hc2 ?_; intro s1 t1 hU1))
  have hP := Bytes.cutT hU1 (h2.below B1) hq1
  have hPl : (P0.take q).length = q := by rw [List.length_take, Nat.min_eq_left hq1]
  obtain ⟨P, hPP⟩ : ∃ P, P0.take q = P := ⟨_, rfl⟩
  rw [hPP] at hP hPl
  subst hPl
  clear hPP hU1 h2 hq1
  have k0 := h0.below B1
  refine (hfew _ k0).mono ?_
  rintro e W2 ⟨v3, rfl, ho3, B2⟩
  have hP2 := hP.below B2
  have u2 := Below.up B1 B2
  obtain ⟨a3, c3, rfl, _⟩ := IsSl.shape ho3.bytes
  go_wp2_with fail
  by_cases hbig : P.length ≤ 65535
  · have hq1 : decide ((65535 : Int) < (P.length : Int)) = false := by simp; omega
    have hX3 := ho3.bytes
    have hpl : (X ++ partB P).length ≤ 100000 := by rw [List.length_append, partB_len]; omega
    have hpart := part_yes _ _ X P _ hX3 hP2 (by omega) hbig
    have hbeh := fun v1 v2 w h1 h2 => rbehind_any v1 v2 X (partB P) w h1 h2 (by rw [partB_len]; omega)
    obtain ⟨Y, hY⟩ : ∃ Y, X ++ partB P = Y := ⟨_, rfl⟩
    rw [hY] at hpart hpl
    simp only [hY] at hbeh
    clear hY
    refine hpart.mono ?_
    rintro e W3 ⟨v7, rfl, ho7, B3⟩
    have u3 := Below.up u2 B3
    have h7 := OwnB.bytes ho7
    have hP3 := hP2.below B3
    obtain ⟨a7, c7, rfl, _⟩ := IsSl.shape h7
    clear ho7 ho3 hX3 hP hP2 B2 B3 hpart
    go_wp2_with fail
    refine (hfew _ (h0.below u3)).mono ?_
    rintro e W4 ⟨v4, rfl, ho4, B4⟩
    have u4 := Below.up u3 B4
    obtain ⟨a4, c4, rfl, _⟩ := IsSl.shape ho4.bytes
    go_wp2_with fail
    refine (rpart_any _ P _ (hP3.below B4) (by omega)).mono ?_
    rintro e W5 ⟨v5, rfl, ho5, B5⟩
    have u5 := Below.up u4 B5
    have h5 := OwnB.bytes ho5
    obtain ⟨a5, c5, rfl, _⟩ := IsSl.shape h5
    go_wp2_with fail
    refine (hbeh _ _ _ (ho4.bytes.below B5) h5).mono ?_
    rintro e W6 ⟨v6, rfl, ho6, B6⟩
    have u6 := Below.up u5 B6
    go_wp2_with fail
    clear hbeh
    refine (w_same Y _ _ _ (((h7.below B4).below B5).below B6) ho6.bytes).mono ?_
    rintro e W7 ⟨rfl, B7⟩
    have u7 := Below.up u6 B7
    clear ho4 ho5 h5 ho6 h7 hP3 B4 B5 B6 B7 u2 u3 u4 u5 u6
    go_wp2_with fail
    refine (hfew _ (h0.below u7)).mono ?_
    rintro e W8 ⟨v9, rfl, ho9, B8⟩
    have u8 := Below.up u7 B8
    have h9 := ho9.bytes
    obtain ⟨a9, c9, rfl, _⟩ := IsSl.shape h9
    have hlt9 : ∀ g, (Value.slice a9 X.length c9).ownBlock = some g → g < W8.heap.size := fun g hg => (ho9.lt g hg).2
    go_wp2_with fail
    refine (open_yes _ X _ h9 (by omega)).mono ?_
    rintro e W9 ⟨rb, bs, rfl, hrb, hobs, hle, B9⟩
    have u9 := Below.up u8 B9
    have ho99 : OwnB W7.heap.size W9 _ _ := ownsRow_below ho9 B9 (Nat.le_refl _)
    have hobs2 : Bytes W9 bs X := OwnB.bytes hobs
    obtain ⟨a8, c8, rfl, _⟩ := IsSl.shape hobs2
    have hw7 := u7.size
    have hw8 := u8.size
    clear h9 ho9 hobs2 B8 B9
    go_wp2
    go_loopw [72] (fun i wx => IncR w W7.heap.size W8.heap.size (.slice a9 X.length c9) (.slice a8 X.length c8) X.length rb X wx i) (fun i _ => X.length - (intOf i).toNat)
    case atStart => exact ⟨0, X, rfl, Nat.zero_le _, rfl, ho99, hrb, hobs, u9⟩
    case round =>
      obtain ⟨j, P', hP', hj, rfl, hoj, hrj, hbj, huj⟩ := hrel
      by_cases hjl : j < P'.length
      · rw [← hP'] at hoj
        obtain ⟨g, rfl, hgb, hgl, hc, hf, hset⟩ := hoj.at hjl
        have hs := hset (P'[j] + 1)
        have hv := vb_inc P'[j]
        have hg8 := hlt9 g rfl
        obtain ⟨z, hz⟩ : ∃ z, P'[j] = z := ⟨_, rfl⟩
        rw [hz] at hc hs hv
        rw [hP'] at hs
        have hB' := Below.setCell huj (p := ⟨g, j, none⟩) (Nat.le_trans hw7 hgb) (vb (z + 1))
        have hr' := hrj.other ⟨g, j, none⟩ (vb (z + 1)) (by simp; omega)
        have hb' := hbj.setO g j (vb (z + 1)) hg8
        have HV := Lib.hid hv
        have HS := Lib.hid hs
        have HP' := Lib.hid hP'
        have hjn : j < X.length := by omega
        clear hz hv hs hset hP' hjl hoj
        go_wp2
        go_roundw
        case rel =>
          refine ⟨j + 1, P'.set j (z + 1), by simpa using HP'.out, by omega, by go_num, ?_, ?_, ?_, ?_⟩
          · rw [HV.out]; exact HS.out
          · rw [HV.out]; exact hr'
          · rw [HV.out]; exact hb'
          · rw [HV.out]; exact hB'
        case measure => simp only [intOf]; omega
      · obtain rfl : j = X.length := by omega
        have hbs := OwnB.bytes hbj
        clear hoj ho99 hobs hrb
        go_wp2_with fail
        refine (hfew _ (h0.below huj)).mono ?_
        rintro e W10 ⟨vw, rfl, ho10, B10⟩
        have hvw := OwnB.bytes ho10
        obtain ⟨aw, cw, rfl, _⟩ := IsSl.shape hvw
        have u10 := Below.up huj B10
        have hB11 := Below.new W10 (.cells #[.slice aw X.length cw, .int .i64 0] 68)
        have kw11 := Blk.new W10 #[.slice aw X.length cw, .int .i64 0] 68
        have kr11 := (hrj.up B10).up hB11
        have u11 := Below.up u10 hB11
        have hbase : RlBase w (W10.alloc (.cells #[.slice aw X.length cw, .int .i64 0] 68)) rb W10.heap.size (.slice a8 X.length c8) (.slice aw X.length cw) X :=
          ⟨(hbs.below B10).below hB11, hvw.below hB11, ⟨_, _, _, _, kr11⟩, ⟨_, _, _, _, kw11⟩, by have := hle; omega, u10.size, by have := (hrj.up B10).lt; omega⟩
        have hinv : RlInv w (W10.alloc (.cells #[.slice aw X.length cw, .int .i64 0] 68)) (W10.alloc (.cells #[.slice aw X.length cw, .int .i64 0] 68)) rb W10.heap.size (.slice a8 X.length c8) (.slice aw X.length cw) X (X, 0) (X, 0) :=
          ⟨u11, fun _ _ _ _ => rfl, Nat.le_refl _, ⟨a8, c8, kr11, fun W h => h⟩, aw, cw, kw11, fun W h => h⟩
        clear hB11 kw11 kr11 u11 u10 B10 ho10 hvw hbs hbj hrj huj u7 u8 u9 hle hw7 hw8 hlt9
        go_upto_region 19 with fail
        obtain ⟨pw, hpw⟩ : ∃ pw, W10.heap.size = pw := ⟨_, rfl⟩
        obtain ⟨W11, hW11⟩ : ∃ W11, W10.alloc (.cells #[.slice aw X.length cw, .int .i64 0] 68) = W11 := ⟨_, rfl⟩
        rw [hW11, hpw] at hbase hinv ⊢
        clear hW11 hpw
        have HBASE := Lib.hid hbase
        have h1w : StepsS w (.slice a1 L.length c1) L := h1
        clear hbase
        go_wp2
        go_loopw [87] (fun i wr => ∃ (k : Nat) (s : RSt), k ≤ L.length ∧ i = .int .i64 k ∧ s.1.length ≤ 60 ∧ RlInv w W11 wr rb pw (.slice a8 X.length c8) (.slice aw X.length cw) X s s) (fun i _ => L.length - (intOf i).toNat)
        case atStart => exact ⟨0, (X, 0), Nat.zero_le _, rfl, hX60, hinv⟩
        case round =>
          obtain ⟨k, s, hk, rfl, hsl, hI⟩ := hrel
          by_cases hlt : k < L.length
          · obtain ⟨b1, o1, rfl, x0, x1⟩ := (h1w.below hI.bel).get hlt
            obtain ⟨⟨kd, nn⟩, hkn⟩ : ∃ m, L[k] = m := ⟨_, rfl⟩
            rw [hkn] at x0 x1
            simp only at x0 x1
            clear hkn
            by_cases h16 : k = 16
            · subst h16
              have hbe := Below.upA hI.bel (.cells #[.int .i64 kd, .int .i64 nn] 70)
              go_wp2_with fail
              refine (numberN_any 1 _).mono ?_
              rintro e V1 ⟨rfl, D1⟩
              go_wp2_with fail
              refine (rbytesN_any 1 _).mono ?_
              rintro e V2 ⟨rfl, D2⟩
              go_wp2_with fail
              refine (rpartN_any _).mono ?_
              rintro e V3 ⟨rfl, D3⟩
              go_wp2_with fail
              refine (leftN _).mono ?_
              rintro e V4 ⟨rfl, rfl⟩
              go_wp2_with fail
              refine (errN _).mono ?_
              rintro e V4 ⟨rfl, rfl⟩
              go_wp2_with fail
              refine (endN _).mono ?_
              rintro e V4 ⟨rfl, rfl⟩
              go_wp2
              go_ret
              exact ⟨rfl, Below.up (Below.up (Below.up hbe D1) D2) D3⟩
            · have hq : ((k : Int) == 16) = false := by rw [beq_eq_false_iff_ne]; omega
              clear h16
              have hB12 := Below.new wr (.cells #[.int .i64 kd, .int .i64 nn] 70)
              have hI12 := hI.below hB12
              have bm := Blk.new wr #[.int .i64 kd, .int .i64 nn] 70
              go_upto_block 4 with fail
              obtain ⟨pm, hpm⟩ : ∃ pm, wr.heap.size = pm := ⟨_, rfl⟩
              obtain ⟨W12, hW12⟩ : ∃ W12, wr.alloc (.cells #[.int .i64 kd, .int .i64 nn] 70) = W12 := ⟨_, rfl⟩
              rw [hW12] at hI12 bm ⊢
              rw [hpm] at bm ⊢
              clear hW12 hpm hB12 hI x0 x1
              go_cut [15] (fun _ wx => ∃ s' : RSt, s'.1.length ≤ 60 ∧ RlInv w W11 wx rb pw (.slice a8 X.length c8) (.slice aw X.length cw) X s' s')
              case first =>
                obtain ⟨l, f⟩ := s
                obtain ⟨wa, wd, kw, hwb, hwU⟩ := hI12.wtBlk HBASE.out
                obtain ⟨ra, rd, kr, hrb, hrU⟩ := hI12.rdBlk HBASE.out
                simp only at kw hwb hwU kr hrb hrU hsl
                have hnw : pm ≠ pw := by
                  rintro rfl
                  have := kw.symm.trans bm
                  simp at this
                have hnr : pm ≠ rb := by
                  rintro rfl
                  have := kr.symm.trans bm
                  simp [rdC] at this
                have hpwlt := kw.lt
                obtain ⟨Cw, Fw, Lw⟩ := kw.all
                obtain ⟨Cm, Fm, Lm⟩ := bm.all
                by_cases h0 : kd = 0
                · subst h0
                  have hnum := fun w h => rrnum_any (.slice wa l.length wd) (l, f) nn w h
                  have hrd := fun w h1 h2 => number_anyM rb (l, f) ra rd nn w h1 h2
                  have hlen := rdNum_len (l, f) nn
                  obtain ⟨⟨⟨l2, f2⟩, n2⟩, hr⟩ : ∃ r, rdNum (l, f) nn = r := ⟨_, rfl⟩
                  rw [hr] at hnum hrd hlen
                  simp only [RestN] at hnum hrd hlen
                  clear hr
                  go_wp2_with fail
                  refine (hnum _ hwb).mono ?_
                  rintro e W5 ⟨na, nc, rfl, hnU, B5⟩
                  have hI5 := hI12.below B5
                  have kw5 := kw.up B5
                  have bm6 := (bm.up B5).setRowO (n := pw) #[.slice na l2.length nc, .int .i64 f2] hnw.symm
                  obtain ⟨Cm6, Fm6, Lm6⟩ := bm6.all
                  have hI6 := RlInv.put (t' := (l2, f2)) HBASE.out hI5 hwU hnU
                  have kr6 := (kr.up B5).setRowO (n := pw) #[.slice na l2.length nc, .int .i64 f2] HBASE.out.ne.symm
                  clear Cw Fw Cm Fm hnum hI5
                  go_wp2_with (refine wl_store_row rfl rfl rfl kw5 rest_hi rfl (by simp [Value.oneCell']) ?_)
                  refine (hrd _ kr6 (hrU _ (rl_bytes HBASE.out hI6 HBASE.out.br))).mono ?_
                  rintro e W7 ⟨rfl, hg7, hm7⟩
                  have hI7 := hI6.read HBASE.out hrU hg7 hm7
                  clear hrd
                  go_wp2
                  go_meet
                  case rel => exact ⟨(l2, f2), by simp only; omega, hI7⟩
                · have hq0 : (kd == 0) = false := by simpa using h0
                  by_cases h1 : kd = 1
                  · subst h1
                    have htk := fun w h => rtake_any (.slice wa l.length wd) (l, f) nn w h
                    have hrd := fun w h1 h2 => rbytes_anyM rb (l, f) ra rd nn w h1 h2 (by simp only; omega)
                    have hlen := rdTake_len1 (l, f) nn
                    obtain ⟨⟨⟨l2, f2⟩, bs⟩, hr⟩ : ∃ r, rdTake (l, f) nn = r := ⟨_, rfl⟩
                    rw [hr] at htk hrd hlen
                    simp only [RestB, ReadBM] at htk hrd hlen
                    clear hr h0
                    go_wp2_with fail
                    refine (hrd _ kr hrb).mono ?_
                    rintro e W5 ⟨va, vc, rfl, hoB, hg5, hm5⟩
                    have hI5 := hI12.read HBASE.out hrU hg5 hm5
                    have kw5 := kw.grown hg5 (by simp; exact fun e => HBASE.out.ne e.symm)
                    have bm5 := bm.grown hg5 (by simpa using hnr)
                    obtain ⟨Cw5, Fw5, Lw5⟩ := kw5.all
                    obtain ⟨Cm5, Fm5, Lm5⟩ := bm5.all
                    clear Cw Fw Cm Fm hrd
                    go_wp2_with fail
                    refine (htk _ (hwU W5 (rl_bytes HBASE.out hI5 HBASE.out.bw))).mono ?_
                    rintro e W6 ⟨na, nc, ba, bc, rfl, hnU, B6⟩
                    have hI6 := hI5.below B6
                    have kw6 := kw5.up B6
                    have hoB6 : OwnB W12.heap.size W6 _ _ := ownsRow_below hoB B6 (Nat.le_refl _)
                    clear Cw5 Fw5 Cm5 Fm5 htk hoB
                    go_wp2_with (refine wl_store_row rfl rfl rfl kw6 rest_hi rfl (by simp [Value.oneCell']) ?_)
                    have hI7 := RlInv.put (t' := (l2, f2)) HBASE.out hI6 hwU (fun W h => (hnU W h).1)
                    have hoB7 := hoB6.setRowO pw #[.slice na l2.length nc, .int .i64 f2] hpwlt
                    have hwt7 := (hnU _ (hwU _ (rl_bytes HBASE.out hI7 HBASE.out.bw))).2
                    refine (w_same bs _ _ _ hoB7.bytes hwt7).mono ?_
                    rintro e W8 ⟨rfl, B8⟩
                    have hI8 := hI7.below B8
                    have hoB8 : OwnB W12.heap.size W8 _ _ := ownsRow_below hoB7 B8 (Nat.le_refl _)
                    have hbsl : bs.length ≤ 9223372036854775807 := by obtain ⟨_, _, _, z1, z2⟩ := IsSl.shape hoB8.bytes; omega
                    have hI12s := hI12.size
                    have hI12b := hI12.bel.size
                    have hrlt := kr.lt
                    clear hI5 hI6 hI7 kw5 bm5 kw6 hoB6 hoB7 hwt7 B6 B8 hm5 hg5
                    go_wp2
                    go_loopw [141] (fun i wx => ∃ (j : Nat) (Q : List UInt8), Q.length = bs.length ∧ j ≤ bs.length ∧ i = .int .i64 j ∧ OwnB W12.heap.size wx (.slice va bs.length vc) Q ∧ RlInv w W11 wx rb pw (.slice a8 X.length c8) (.slice aw X.length cw) X (l2, f2) (l2, f2)) (fun i _ => bs.length - (intOf i).toNat)
                    case atStart => exact ⟨0, bs, rfl, Nat.zero_le _, rfl, hoB8, hI8⟩
                    case round =>
                      obtain ⟨j, Q, hQ, hj, rfl, hoj, hIj⟩ := hrel
                      by_cases hjl : j < Q.length
                      · rw [← hQ] at hoj
                        obtain ⟨g, rfl, hgb, hgl, hc, hf, hset⟩ := hoj.at hjl
                        have hs := hset (Q[j] + 1)
                        have hv := vb_inc Q[j]
                        obtain ⟨z, hz⟩ : ∃ z, Q[j] = z := ⟨_, rfl⟩
                        rw [hz] at hc hs hv
                        rw [hQ] at hs
                        have hI' := hIj.setG (g := g) (by omega) (by omega) (by omega) (by omega) j (vb (z + 1))
                        have HV := Lib.hid hv
                        have HS := Lib.hid hs
                        have HQ := Lib.hid hQ
                        have hjn : j < bs.length := by omega
                        clear hz hv hs hset hQ hjl hoj hIj
                        go_wp2
                        go_roundw
                        case rel =>
                          refine ⟨j + 1, Q.set j (z + 1), by simpa using HQ.out, by omega, by go_num, ?_, ?_⟩
                          · rw [HV.out]; exact HS.out
                          · rw [HV.out]; exact hI'
                        case measure => simp only [intOf]; omega
                      · obtain rfl : j = bs.length := by omega
                        go_wp2
                        go_meet
                        case rel => exact ⟨(l2, f2), by simp only; omega, hIj⟩
                  · have hq1 : (kd == 1) = false := by simpa using h1
                    by_cases h2 : kd = 2
                    · subst h2
                      have htk := fun w h => rrpart_any (.slice wa l.length wd) (l, f) w h
                      have hrd := fun w h1 h2 => rpart1_anyM rb (l, f) ra rd w h1 h2 (by simp only; omega)
                      have hlen := rdPart_len1 (l, f)
                      obtain ⟨⟨⟨l2, f2⟩, bs⟩, hr⟩ : ∃ r, rdPart (l, f) = r := ⟨_, rfl⟩
                      rw [hr] at htk hrd hlen
                      simp only [RestB, ReadBM] at htk hrd hlen
                      clear hr h0 h1
                      go_wp2_with fail
                      refine (hrd _ kr hrb).mono ?_
                      rintro e W5 ⟨va, vc, rfl, hoB, hg5, hm5⟩
                      have hI5 := hI12.read HBASE.out hrU hg5 hm5
                      have kw5 := kw.grown hg5 (by simp; exact fun e => HBASE.out.ne e.symm)
                      have bm5 := bm.grown hg5 (by simpa using hnr)
                      obtain ⟨Cw5, Fw5, Lw5⟩ := kw5.all
                      obtain ⟨Cm5, Fm5, Lm5⟩ := bm5.all
                      clear Cw Fw Cm Fm hrd
                      go_wp2_with fail
                      refine (htk _ (hwU W5 (rl_bytes HBASE.out hI5 HBASE.out.bw))).mono ?_
                      rintro e W6 ⟨na, nc, ba, bc, rfl, hnU, B6⟩
                      have hI6 := hI5.below B6
                      have kw6 := kw5.up B6
                      have hoB6 : OwnB W12.heap.size W6 _ _ := ownsRow_below hoB B6 (Nat.le_refl _)
                      clear Cw5 Fw5 Cm5 Fm5 htk hoB
                      go_wp2_with (refine wl_store_row rfl rfl rfl kw6 rest_hi rfl (by simp [Value.oneCell']) ?_)
                      have hI7 := RlInv.put (t' := (l2, f2)) HBASE.out hI6 hwU (fun W h => (hnU W h).1)
                      have hoB7 := hoB6.setRowO pw #[.slice na l2.length nc, .int .i64 f2] hpwlt
                      have hwt7 := (hnU _ (hwU _ (rl_bytes HBASE.out hI7 HBASE.out.bw))).2
                      refine (w_same bs _ _ _ hoB7.bytes hwt7).mono ?_
                      rintro e W8 ⟨rfl, B8⟩
                      have hI8 := hI7.below B8
                      have hoB8 : OwnB W12.heap.size W8 _ _ := ownsRow_below hoB7 B8 (Nat.le_refl _)
                      have hbsl : bs.length ≤ 9223372036854775807 := by obtain ⟨_, _, _, z1, z2⟩ := IsSl.shape hoB8.bytes; omega
                      have hI12s := hI12.size
                      have hI12b := hI12.bel.size
                      have hrlt := kr.lt
                      clear hI5 hI6 hI7 kw5 bm5 kw6 hoB6 hoB7 hwt7 B6 B8 hm5 hg5
                      go_wp2
                      go_loopw [141] (fun i wx => ∃ (j : Nat) (Q : List UInt8), Q.length = bs.length ∧ j ≤ bs.length ∧ i = .int .i64 j ∧ OwnB W12.heap.size wx (.slice va bs.length vc) Q ∧ RlInv w W11 wx rb pw (.slice a8 X.length c8) (.slice aw X.length cw) X (l2, f2) (l2, f2)) (fun i _ => bs.length - (intOf i).toNat)
                      case atStart => exact ⟨0, bs, rfl, Nat.zero_le _, rfl, hoB8, hI8⟩
                      case round =>
                        obtain ⟨j, Q, hQ, hj, rfl, hoj, hIj⟩ := hrel
                        by_cases hjl : j < Q.length
                        · rw [← hQ] at hoj
                          obtain ⟨g, rfl, hgb, hgl, hc, hf, hset⟩ := hoj.at hjl
                          have hs := hset (Q[j] + 1)
                          have hv := vb_inc Q[j]
                          obtain ⟨z, hz⟩ : ∃ z, Q[j] = z := ⟨_, rfl⟩
                          rw [hz] at hc hs hv
                          rw [hQ] at hs
                          have hI' := hIj.setG (g := g) (by omega) (by omega) (by omega) (by omega) j (vb (z + 1))
                          have HV := Lib.hid hv
                          have HS := Lib.hid hs
                          have HQ := Lib.hid hQ
                          have hjn : j < bs.length := by omega
                          clear hz hv hs hset hQ hjl hoj hIj
                          go_wp2
                          go_roundw
                          case rel =>
                            refine ⟨j + 1, Q.set j (z + 1), by simpa using HQ.out, by omega, by go_num, ?_, ?_⟩
                            · rw [HV.out]; exact HS.out
                            · rw [HV.out]; exact hI'
                          case measure => simp only [intOf]; omega
                        · obtain rfl : j = bs.length := by omega
                          go_wp2
                          go_meet
                          case rel => exact ⟨(l2, f2), by simp only; omega, hIj⟩
                    · have hq2 : (kd == 2) = false := by simpa using h2
                      clear h0 h1 h2
                      go_wp2
                      go_meet
                      case rel => exact ⟨(l, f), hsl, hI12⟩
              case rest =>
                obtain ⟨⟨l', f'⟩, hl', hJ⟩ := hcut
                obtain ⟨V, hV⟩ : ∃ V, V = wc := ⟨_, rfl⟩
                subst hV
                obtain ⟨wa, wd, kw, _, _⟩ := hJ.wtBlk HBASE.out
                simp only at kw hl'
                have hR : Rd V rb l' f' := hJ.rdR HBASE.out
                have ud := (Below.refl V.heap.size V).drew
                obtain ⟨Cw, Fw, Lw⟩ := kw.all
                have hend := fun w h => end_any rb (l', f') w h
                simp only [end_eq] at hend
                by_cases hf : f' = 0
                · subst hf
                  simp only [if_true] at hend
                  by_cases hn : 0 < l'.length
                  · rw [if_pos hn] at hend
                    have hq2 : decide (0 < l'.length) = true := decide_eq_true hn
                    go_upto_region 47 with fail
                    refine wp_region_segs 17 [.q [0, 2, 3, 4], .e 1, .q [5, 6, 7, 9, 10], .e 8, .q [11, 12, 13, 14, 16], .e 15] (fun w'' => Blk w'' pw #[.slice wa l'.length wd, .int .i64 (0)] 68) (by kernel_rfl) (by kernel_rfl) (fun _ _ d _ _ h => by cases d <;> exact h) ?_
                    refine ⟨kw.drew, ?_⟩
                    show wpQuiet _ _ _ _ [_, _, _, _] _
                    repeat (first | (refine wq_load1 rfl rfl (by kernel_rfl) (fun _ h => h.cell 0) ?_; simp only [Act.put, List.setIfInBounds_toArray, List.set_cons_succ, List.set_cons_zero]) | go_big_quiet_step ((intros; rfl)) | quiet_step ((intros; rfl)) | (refine wq_loadB rfl rfl (by kernel_rfl) (by assumption) ?_; simp only [Act.put, List.setIfInBounds_toArray, List.set_cons_succ, List.set_cons_zero]))
                    refine wpQuiet_nil ?_
                    show wpList _ _ _ [_] _ _
                    go_wp2_with fail
                    refine (left_rd rb (l', (0)) _ (hR.below ud)).mono ?_
                    rintro e V1 ⟨rfl, D1⟩
                    have d1 := Below.up ud D1
                    go_wp2
                    refine ⟨kw.up d1, kw.up d1, ?_⟩
                    show wpQuiet _ _ _ _ [_, _, _, _, _] _
                    repeat (first | (refine wq_load1 rfl rfl (by kernel_rfl) (fun _ h => h.cell 1) ?_; simp only [Act.put, List.setIfInBounds_toArray, List.set_cons_succ, List.set_cons_zero]) | go_big_quiet_step ((intros; rfl)) | quiet_step ((intros; rfl)) | (refine wq_loadB rfl rfl (by kernel_rfl) (by assumption) ?_; simp only [Act.put, List.setIfInBounds_toArray, List.set_cons_succ, List.set_cons_zero]))
                    refine wpQuiet_nil ?_
                    show wpList _ _ _ [_] _ _
                    go_wp2_with fail
                    refine (err_rd rb (l', (0)) _ (hR.below d1)).mono ?_
                    rintro e V2 ⟨rfl, D2⟩
                    have d2 := Below.up d1 D2
                    go_wp2
                    refine ⟨kw.up d2, kw.up d2, ?_⟩
                    show wpQuiet _ _ _ _ [_, _, _, _, _] _
                    repeat (first | go_big_quiet_step ((intros; rfl)) | quiet_step ((intros; rfl)) | fail | (refine wq_loadB rfl rfl (by kernel_rfl) (by assumption) ?_; simp only [Act.put, List.setIfInBounds_toArray, List.set_cons_succ, List.set_cons_zero]))
                    refine wpQuiet_nil ?_
                    show wpList _ _ _ [_] _ _
                    go_wp2_with fail
                    refine (hend _ (hR.below d2)).mono ?_
                    rintro e V3 ⟨rfl, D3⟩
                    have d3 := Below.up d2 D3
                    go_wp2
                    refine ⟨kw.up d3, ?_⟩
                    show wpList _ _ _ [_, _] _ _
                    go_wp2
                    go_roundw
                    case rel => exact ⟨k + 1, (l', (0)), by omega, by go_num, hl', hJ.below d3⟩
                    case measure => simp only [intOf]; omega
                  · rw [if_neg hn] at hend
                    have hq2 : decide (0 < l'.length) = false := decide_eq_false hn
                    go_upto_region 47 with fail
                    refine wp_region_segs 17 [.q [0, 2, 3, 4], .e 1, .q [5, 6, 7, 9, 10], .e 8, .q [11, 12, 13, 14, 16], .e 15] (fun w'' => Blk w'' pw #[.slice wa l'.length wd, .int .i64 (0)] 68) (by kernel_rfl) (by kernel_rfl) (fun _ _ d _ _ h => by cases d <;> exact h) ?_
                    refine ⟨kw.drew, ?_⟩
                    show wpQuiet _ _ _ _ [_, _, _, _] _
                    repeat (first | (refine wq_load1 rfl rfl (by kernel_rfl) (fun _ h => h.cell 0) ?_; simp only [Act.put, List.setIfInBounds_toArray, List.set_cons_succ, List.set_cons_zero]) | go_big_quiet_step ((intros; rfl)) | quiet_step ((intros; rfl)) | (refine wq_loadB rfl rfl (by kernel_rfl) (by assumption) ?_; simp only [Act.put, List.setIfInBounds_toArray, List.set_cons_succ, List.set_cons_zero]))
                    refine wpQuiet_nil ?_
                    show wpList _ _ _ [_] _ _
                    go_wp2_with fail
                    refine (left_rd rb (l', (0)) _ (hR.below ud)).mono ?_
                    rintro e V1 ⟨rfl, D1⟩
                    have d1 := Below.up ud D1
                    go_wp2
                    refine ⟨kw.up d1, kw.up d1, ?_⟩
                    show wpQuiet _ _ _ _ [_, _, _, _, _] _
                    repeat (first | (refine wq_load1 rfl rfl (by kernel_rfl) (fun _ h => h.cell 1) ?_; simp only [Act.put, List.setIfInBounds_toArray, List.set_cons_succ, List.set_cons_zero]) | go_big_quiet_step ((intros; rfl)) | quiet_step ((intros; rfl)) | (refine wq_loadB rfl rfl (by kernel_rfl) (by assumption) ?_; simp only [Act.put, List.setIfInBounds_toArray, List.set_cons_succ, List.set_cons_zero]))
                    refine wpQuiet_nil ?_
                    show wpList _ _ _ [_] _ _
                    go_wp2_with fail
                    refine (err_rd rb (l', (0)) _ (hR.below d1)).mono ?_
                    rintro e V2 ⟨rfl, D2⟩
                    have d2 := Below.up d1 D2
                    go_wp2
                    refine ⟨kw.up d2, kw.up d2, ?_⟩
                    show wpQuiet _ _ _ _ [_, _, _, _, _] _
                    repeat (first | go_big_quiet_step ((intros; rfl)) | quiet_step ((intros; rfl)) | fail | (refine wq_loadB rfl rfl (by kernel_rfl) (by assumption) ?_; simp only [Act.put, List.setIfInBounds_toArray, List.set_cons_succ, List.set_cons_zero]))
                    refine wpQuiet_nil ?_
                    show wpList _ _ _ [_] _ _
                    go_wp2_with fail
                    refine (hend _ (hR.below d2)).mono ?_
                    rintro e V3 ⟨rfl, D3⟩
                    have d3 := Below.up d2 D3
                    go_wp2
                    refine ⟨kw.up d3, ?_⟩
                    show wpList _ _ _ [_, _] _ _
                    go_wp2
                    go_roundw
                    case rel => exact ⟨k + 1, (l', (0)), by omega, by go_num, hl', hJ.below d3⟩
                    case measure => simp only [intOf]; omega
                · rw [if_neg hf] at hend
                  have hq2 : (f' == 0) = false := by simpa using hf
                  go_upto_region 47 with fail
                  refine wp_region_segs 17 [.q [0, 2, 3, 4], .e 1, .q [5, 6, 7, 9, 10], .e 8, .q [11, 12, 13, 14, 16], .e 15] (fun w'' => Blk w'' pw #[.slice wa l'.length wd, .int .i64 (f')] 68) (by kernel_rfl) (by kernel_rfl) (fun _ _ d _ _ h => by cases d <;> exact h) ?_
                  refine ⟨kw.drew, ?_⟩
                  show wpQuiet _ _ _ _ [_, _, _, _] _
                  repeat (first | (refine wq_load1 rfl rfl (by kernel_rfl) (fun _ h => h.cell 0) ?_; simp only [Act.put, List.setIfInBounds_toArray, List.set_cons_succ, List.set_cons_zero]) | go_big_quiet_step ((intros; rfl)) | quiet_step ((intros; rfl)) | (refine wq_loadB rfl rfl (by kernel_rfl) (by assumption) ?_; simp only [Act.put, List.setIfInBounds_toArray, List.set_cons_succ, List.set_cons_zero]))
                  refine wpQuiet_nil ?_
                  show wpList _ _ _ [_] _ _
                  go_wp2_with fail
                  refine (left_rd rb (l', (f')) _ (hR.below ud)).mono ?_
                  rintro e V1 ⟨rfl, D1⟩
                  have d1 := Below.up ud D1
                  go_wp2
                  refine ⟨kw.up d1, kw.up d1, ?_⟩
                  show wpQuiet _ _ _ _ [_, _, _, _, _] _
                  repeat (first | (refine wq_load1 rfl rfl (by kernel_rfl) (fun _ h => h.cell 1) ?_; simp only [Act.put, List.setIfInBounds_toArray, List.set_cons_succ, List.set_cons_zero]) | go_big_quiet_step ((intros; rfl)) | quiet_step ((intros; rfl)) | (refine wq_loadB rfl rfl (by kernel_rfl) (by assumption) ?_; simp only [Act.put, List.setIfInBounds_toArray, List.set_cons_succ, List.set_cons_zero]))
                  refine wpQuiet_nil ?_
                  show wpList _ _ _ [_] _ _
                  go_wp2_with fail
                  refine (err_rd rb (l', (f')) _ (hR.below d1)).mono ?_
                  rintro e V2 ⟨rfl, D2⟩
                  have d2 := Below.up d1 D2
                  go_wp2
                  refine ⟨kw.up d2, kw.up d2, ?_⟩
                  show wpQuiet _ _ _ _ [_, _, _, _, _] _
                  repeat (first | go_big_quiet_step ((intros; rfl)) | quiet_step ((intros; rfl)) | fail | (refine wq_loadB rfl rfl (by kernel_rfl) (by assumption) ?_; simp only [Act.put, List.setIfInBounds_toArray, List.set_cons_succ, List.set_cons_zero]))
                  refine wpQuiet_nil ?_
                  show wpList _ _ _ [_] _ _
                  go_wp2_with fail
                  refine (hend _ (hR.below d2)).mono ?_
                  rintro e V3 ⟨rfl, D3⟩
                  have d3 := Below.up d2 D3
                  go_wp2
                  refine ⟨kw.up d3, ?_⟩
                  show wpList _ _ _ [_, _] _ _
                  go_wp2
                  go_roundw
                  case rel => exact ⟨k + 1, (l', (f')), by omega, by go_num, hl', hJ.below d3⟩
                  case measure => simp only [intOf]; omega
          · obtain rfl : k = L.length := by omega
            go_wp2_with fail
            refine (numberN_any 1 _).mono ?_
            rintro e V1 ⟨rfl, D1⟩
            go_wp2_with fail
            refine (rbytesN_any 1 _).mono ?_
            rintro e V2 ⟨rfl, D2⟩
            go_wp2_with fail
            refine (rpartN_any _).mono ?_
            rintro e V3 ⟨rfl, D3⟩
            go_wp2_with fail
            refine (leftN _).mono ?_
            rintro e V4 ⟨rfl, rfl⟩
            go_wp2_with fail
            refine (errN _).mono ?_
            rintro e V4 ⟨rfl, rfl⟩
            go_wp2_with fail
            refine (endN _).mono ?_
            rintro e V4 ⟨rfl, rfl⟩
            go_wp2
            go_ret
            exact ⟨rfl, Below.up (Below.up (Below.up hI.bel D1) D2) D3⟩
  · have hq1 : decide ((65535 : Int) < (P.length : Int)) = true := by simp; omega
    refine (part_no _ _ X P _ ho3.bytes hP2 hbig).mono ?_
    rintro e W3 ⟨rfl, B3⟩
    go_wp2
    go_ret
    exact ⟨rfl, Below.up u2 B3⟩

end Go.Proofs.Ytpooakhmpfbmgaa
