/- gessolaw01.OctetPuts: its walk. -/
import Derived.Test.YtpooakhmpfbmgaaOctInc
import Derived.Test.YtpooakhmpfbmgaaOctRows
import Derived.Deep.DeepCutAuto
namespace Go.Proofs.Ytpooakhmpfbmgaa
open Go.RowKit

theorem vb_inc (x : UInt8) : (.int .u8 (((x.toNat : Int) + 1) % 256) : Value) = vb (x + 1) := by
  have : (x + 1).toNat = (x.toNat + 1) % 256 := by simp [UInt8.toNat_add]
  unfold vb
  rw [this]
  exact congrArg _ (by omega)
/-- what a round of p[k]++ knows -/
def IncInv (W wx : World) (p : Value) (n : Nat) (i : Value) : Prop := ∃ (j : Nat) (P : List UInt8), P.length = n ∧ j ≤ n ∧ i = .int .i64 j ∧ OwnB W.heap.size wx p P ∧ Below W.heap.size W wx

set_option maxRecDepth 100000 in
set_option maxHeartbeats 4000000 in
theorem law_puts (v0 v1 : Value) (X : List UInt8) (L : List Num3) (w : World) (h0 : Bytes w v0 X) (h1 : NumsS w v1 L) (h64 : ∀ m ∈ L, m.2.2 < 18446744073709551616) :
    Calls Try.prog 3 #[v0, v1] w fun e w' => e = .returned (.bool true) ∧ Below w.heap.size w w' := by
  obtain ⟨a0, c0, rfl, hc0, hm0⟩ := IsSl.shape h0
  obtain ⟨a1, c1, rfl, hc1, hm1⟩ := IsSl.shape h1
  go_enter Try.func3, Try.ntmps3
  go_wp2_with fail
  refine (wakes_any _).mono ?_
  rintro e W1 ⟨rfl, B1⟩
  go_wp2_with fail
  refine (few_any _ X _ (h0.below B1)).mono ?_
  rintro e W2 ⟨v5, rfl, ho5, B2⟩
  obtain ⟨l, hl⟩ : ∃ l, X.take 60 = l := ⟨_, rfl⟩
  have hl60 : l.length ≤ 60 := by rw [← hl]; simp; omega
  rw [hl] at ho5
  have HX := Lib.hid hl
  have h5 := ho5.bytes
  have u2 := Below.up B1 B2
  have k0 := h0.below u2
  have k1 := h1.below u2
  clear hl ho5 B1 B2 h0 h1
  obtain ⟨a5, c5, rfl, hc5, hm5⟩ := IsSl.shape h5
  go_wp2
  go_loopw [23] (fun i wr => ∃ k : Nat, k ≤ L.length ∧ i = .int .i64 k ∧ Below W2.heap.size W2 wr) (fun i _ => L.length - (intOf i).toNat)
  case atStart => exact ⟨0, by omega, rfl, Below.refl _ _⟩
  case round =>
    obtain ⟨k, hk, rfl, hB⟩ := hrel
    by_cases hlt : k < L.length
    · obtain ⟨b1, o1, rfl, x0, x1, x2⟩ := NumsS.get (w := wr) (k1.below hB) hlt
      have hn64 := h64 L[k] (List.getElem_mem hlt)
      obtain ⟨⟨m, x, n⟩, hm⟩ : ∃ m, L[k] = m := ⟨_, rfl⟩
      rw [hm] at x0 x1 x2 hn64
      simp only at x0 x1 x2 hn64
      clear hm
      by_cases h12 : k = 12
      · subst h12
        go_wp2
        go_ret
        exact ⟨rfl, Below.up u2 (Below.upA hB _)⟩
      · have hq : ((k : Int) == 12) = false := by rw [beq_eq_false_iff_ne]; omega
        clear h12
        go_wp2_with fail
        have hB0 := Below.upA hB (.cells #[.int .i64 m, .int .i64 x, .int .u64 n] 28)
        have bm := Blk.new wr #[.int .i64 m, .int .i64 x, .int .u64 n] 28
        obtain ⟨W3, hW3⟩ : ∃ W3, wr.alloc (.cells #[.int .i64 m, .int .i64 x, .int .u64 n] 28) = W3 := ⟨_, rfl⟩
        obtain ⟨pm, hpm⟩ : ∃ pm, wr.heap.size = pm := ⟨_, rfl⟩
        rw [hW3] at hB0 bm ⊢
        rw [hpm] at bm ⊢
        clear hW3 hpm x0 x1 x2 hB
        refine (put_any _ l x n _ (h5.below hB0) (by omega) hn64).mono ?_
        rintro e W4 ⟨ap, cp, rfl, hop, B4⟩
        obtain ⟨P, hP⟩ : ∃ P, putB l x n = P := ⟨_, rfl⟩
        obtain ⟨N, hN⟩ : ∃ N, layNo x n = N := ⟨_, rfl⟩
        have hPl := putB_len l x n
        rw [hP] at hop hPl ⊢
        rw [hN]
        have HP := Lib.hid hP
        have HN := Lib.hid hN
        clear hP hN
        have bm4 := bm.up B4
        have h54 := (h5.below hB0).below B4
        obtain ⟨C4, F4, L4⟩ := bm4.all
        obtain ⟨ok, hok⟩ : ∃ ok, okW x = ok := ⟨_, rfl⟩
        have HOK := Lib.hid hok
        have hwid := fun w => c_width x ok w hok
        clear hok
        go_upto_if 41 with (go_at_call 12; refine (hwid _).mono ?_; rintro e W5 ⟨rfl, rfl⟩)
        go_cut [10, 11] (fun s10 s11 wx => s11 = .int .i64 N ∧ Bytes wx s10 P ∧ Below W4.heap.size W4 wx)
        case first =>
          have hNu := HN.out
          have hPu := HP.out
          unfold putB at hPu
          rw [hNu] at hPu
          unfold layNo at hNu
          have hx := HOK.out
          clear HOK
          cases ok with
          | false =>
            rw [hx, if_neg (by simp)] at hNu
            subst hNu
            rw [if_neg (by decide)] at hPu
            subst hPu
            clear hx hwid
            go_wp2
            go_meet
            case rel => exact ⟨rfl, bytes_nil _, Below.refl _ _⟩
          | true =>
            obtain ⟨y, rfl, g1, g2⟩ := okW_nat hx
            rw [hx, if_pos rfl, Int.toNat_natCast] at hNu
            cases hf : fitsB y n with
            | false =>
              rw [hf, if_neg (by simp)] at hNu
              subst hNu
              rw [if_neg (by decide)] at hPu
              subst hPu
              have hfit := fun w => c_fits y n false w g2 hn64 hf
              clear hf
              clear hx hwid
              go_wp2_with fail
              refine (hfit _).mono ?_
              rintro e W5 ⟨rfl, B5⟩
              clear hfit
              go_wp2
              go_meet
              case rel => exact ⟨rfl, bytes_nil _, B5⟩
            | true =>
              rw [hf, if_pos rfl] at hNu
              subst hNu
              rw [if_pos rfl, Int.toNat_natCast] at hPu
              have hfit := fun w => c_fits y n true w g2 hn64 hf
              clear hf
              clear hx hwid
              go_wp2_with fail
              refine (hfit _).mono ?_
              rintro e W5 ⟨rfl, B5⟩
              clear hfit
              obtain ⟨C5, F5, L5⟩ := (bm4.up B5).all
              clear C4 F4 L4
              go_wp2_with fail
              refine (rlay_any y n _ g2 hn64).mono ?_
              rintro e W6 ⟨v6, rfl, ho6, B6⟩
              have u6 := Below.up B5 B6
              go_wp2_with fail
              refine (rbehind_any _ _ l (layB y n) _ (h54.below u6) ho6.bytes (by rw [layB_len]; omega)).mono ?_
              rintro e W7 ⟨v7, rfl, ho7, B7⟩
              rw [hPu] at ho7
              clear hPu
              go_wp2
              go_meet
              case rel => exact ⟨rfl, ho7.bytes, Below.up u6 B7⟩
        case rest =>
          obtain ⟨rfl, h10, hBc⟩ := hcut
          have bm5 := bm4.up hBc
          have h55 := h54.below hBc
          have hop5 : OwnB _ wc _ _ := ownsRow_below hop hBc (Nat.le_refl _)
          have u5 := Below.up B4 hBc
          obtain ⟨C5, F5, L5⟩ := bm5.all
          obtain ⟨ap0, cp0, rfl, _, _⟩ := IsSl.shape h10
          obtain ⟨W5, hW5⟩ : ∃ W5, W5 = wc := ⟨_, rfl⟩
          subst hW5
          clear C4 F4 L4 hBc h54 bm4 bm hop
          go_wp2_with fail
          refine (get_any _ l m x _ h55 (by omega)).mono ?_
          rintro e W6 ⟨rfl, B6⟩
          obtain ⟨G, hG⟩ : ∃ G, getV l m x = G := ⟨_, rfl⟩
          obtain ⟨M, hM⟩ : ∃ M, getNo m x l.length = M := ⟨_, rfl⟩
          rw [hG, hM]
          have HG := Lib.hid hG
          have HM := Lib.hid hM
          clear hG hM
          have bm6 := bm5.up B6
          have h56 := h55.below B6
          have h106 := h10.below B6
          have hop6 : OwnB _ W6 _ _ := ownsRow_below hop5 B6 (Nat.le_refl _)
          have u6 := Below.up u5 B6
          obtain ⟨C6, F6, L6⟩ := bm6.all
          clear C5 F5 L5 B6 bm5 h55 h10 hop5
          go_upto_if 65 with (go_at_call 12; refine (hwid _).mono ?_; rintro e W7 ⟨rfl, rfl⟩)
          go_cut [14, 15] (fun s14 s15 wx => s15 = .int .i64 M ∧ s14 = .int .u64 G ∧ Below W6.heap.size W6 wx)
          case first =>
            have hMu := HM.out
            have hGu := HG.out
            unfold getV at hGu
            rw [hMu] at hGu
            unfold getNo at hMu
            have hx := HOK.out
            clear HOK HP HN
            cases ok with
            | false =>
              rw [hx, if_neg (by simp)] at hMu
              subst hMu
              rw [if_neg (by decide)] at hGu
              subst hGu
              clear hx hwid
              go_wp2
              go_meet
              case rel => exact ⟨rfl, rfl, Below.refl _ _⟩
            | true =>
              rw [hx, if_pos rfl] at hMu
              obtain ⟨y, rfl, g1, g2⟩ := okW_nat hx
              clear hx hwid
              by_cases hm0 : 0 ≤ m
              · obtain ⟨j, rfl⟩ : ∃ j : Nat, m = j := ⟨m.toNat, by omega⟩
                by_cases hm1 : j ≤ l.length
                · rw [if_pos (by omega)] at hMu
                  by_cases hm2 : y ≤ l.length - j
                  · rw [if_pos (by omega)] at hMu
                    subst hMu
                    rw [if_pos rfl, Int.toNat_natCast, Int.toNat_natCast] at hGu
                    have q1 : decide (j ≤ l.length) = true := by simp [hm1]
                    have q2 : decide ((y : Int) ≤ (l.length : Int) - (j : Int)) = true := by simp; omega
                    go_wp2_with (refine wl_slice_lh j (j + y) rfl rfl rfl (congrArg (Value.int IntKind.i64) (by omega : (j : Int) + (y : Int) = ((j + y : Nat) : Int))) h56 (by omega) (by omega) ?_; rw [Nat.add_sub_cancel_left]; intro sa sc hsl)
                    refine (rnum_any _ _ _ hsl (by simp; omega)).mono ?_
                    rintro e W7 ⟨rfl, B7⟩
                    rw [hGu]
                    clear hGu
                    go_wp2
                    go_meet
                    case rel => exact ⟨rfl, rfl, B7⟩
                  · rw [if_neg (by omega)] at hMu
                    subst hMu
                    rw [if_neg (by decide)] at hGu
                    subst hGu
                    have q1 : decide (j ≤ l.length) = true := by simp [hm1]
                    have q2 : decide ((y : Int) ≤ (l.length : Int) - (j : Int)) = false := by simp; omega
                    go_wp2
                    go_meet
                    case rel => exact ⟨rfl, rfl, Below.refl _ _⟩
                · rw [if_neg (by omega)] at hMu
                  subst hMu
                  rw [if_neg (by decide)] at hGu
                  subst hGu
                  have q1 : decide (j ≤ l.length) = false := by simp; omega
                  go_wp2
                  go_meet
                  case rel => exact ⟨rfl, rfl, Below.refl _ _⟩
              · rw [if_neg (by omega)] at hMu
                subst hMu
                rw [if_neg (by decide)] at hGu
                subst hGu
                have q1 : decide (0 ≤ m) = false := by simp; omega
                go_wp2
                go_meet
                case rel => exact ⟨rfl, rfl, Below.refl _ _⟩
          case rest =>
            obtain ⟨rfl, rfl, hBc⟩ := hcut
            have h107 := h106.below hBc
            have hop7 : OwnB _ wc _ _ := ownsRow_below hop6 hBc (Nat.le_refl _)
            have u7 := Below.up u6 hBc
            clear C6 F6 L6 hBc h106 bm6 hop6 h56
            obtain ⟨W7, hW7⟩ : ∃ W7, W7 = wc := ⟨_, rfl⟩
            subst hW7
            go_wp2_with fail
            refine (w_same P _ _ _ hop7.bytes h107).mono ?_
            rintro e W8 ⟨rfl, B8⟩
            have hop8 : OwnB _ W8 _ _ := ownsRow_below hop7 B8 (Nat.le_refl _)
            have u8 := Below.up u7 B8
            clear hop7 h107 B8
            go_wp2
            go_loopw [115] (fun i wx => IncInv W3 wx (.slice ap P.length cp) P.length i) (fun i _ => P.length - (intOf i).toNat)
            case atStart => exact ⟨0, P, rfl, Nat.zero_le _, rfl, hop8, u8⟩
            case round =>
              obtain ⟨j, P', hP', hj, rfl, hoj, huj⟩ := hrel
              by_cases hjl : j < P'.length
              · rw [← hP'] at hoj
                obtain ⟨g, rfl, hgb, hgl, hc, hf, hset⟩ := hoj.at hjl
                have hs := hset (P'[j] + 1)
                have hv := vb_inc P'[j]
                obtain ⟨z, hz⟩ : ∃ z, P'[j] = z := ⟨_, rfl⟩
                rw [hz] at hc hs hv
                rw [hP'] at hs
                have hB9 := Below.setCell huj (p := ⟨g, j, none⟩) hgb (vb (z + 1))
                have HV := Lib.hid hv
                have HS := Lib.hid hs
                have HP' := Lib.hid hP'
                have hjn : j < P.length := by omega
                clear hz hv hs hset hP' hjl hoj
                go_wp2
                go_roundw
                case rel =>
                  refine ⟨j + 1, P'.set j (z + 1), by simpa using HP'.out, by omega, by go_num, ?_, ?_⟩
                  · rw [HV.out]; exact HS.out
                  · rw [HV.out]; exact hB9
                case measure => simp only [intOf]; omega
              · obtain rfl : j = P.length := by omega
                have k0j := k0.below (Below.up hB0 huj)
                have h5j := (h5.below hB0).below huj
                clear hoj
                go_wp2_with fail
                refine (few_any _ X _ k0j).mono ?_
                rintro e W9 ⟨v9, rfl, ho9, B9⟩
                rw [HX.out] at ho9
                go_wp2_with fail
                refine (w_equal l _ _ _ (h5j.below B9) ho9.bytes).mono ?_
                rintro e W10 ⟨rfl, B10⟩
                have hBe := Below.up (Below.up (Below.up hB0 huj) B9) B10
                go_wp2
                go_roundw
                case rel => exact ⟨k + 1, by omega, by go_num, hBe⟩
                case measure => simp only [intOf]; omega
    · obtain rfl : k = L.length := by omega
      go_wp2
      go_ret
      exact ⟨rfl, Below.up u2 hB⟩

theorem law_puts2 (v0 : Value) (X : List UInt8) (v1 : Value) (L : List Num3) (w : World) (h0 : Bytes w v0 X) (h1 : NumsS w v1 L ∧ ∀ m ∈ L, m.2.2 < 18446744073709551616) :
    Calls Try.prog 3 #[v0, v1] w fun e w' => e = .returned (.bool true) ∧ Below w.heap.size w w' := law_puts v0 v1 X L w h0 h1.1 h1.2

end Go.Proofs.Ytpooakhmpfbmgaa
