/- gessoref01.Split. -/
import Derived.Test.YtpooakhmpfbmgaaOctSplit2
import Derived.Test.YtpooakhmpfbmgaaOctRdNum
namespace Go.Proofs.Ytpooakhmpfbmgaa
open Go.RowKit

theorem Bytes.sh {w : World} {a : Option Addr} {n c k : Nat} {l : List UInt8} (h : Bytes w (.slice a n c) (l.drop k)) : Bytes w (.slice a n c) (l.drop k) := h

/-- what a round of the reference's splitting knows -/
structure RSpInv (W wr : World) (xs : List Int) (bs : List UInt8) (s b : Value) (k : Nat) : Prop where
  own : OwnU W.heap.size wr s (splitR (xs.take k) bs)
  byt : Bytes W b (bs.drop (sumW (xs.take k)))
  bel : Below W.heap.size W wr

set_option maxRecDepth 100000 in
set_option maxHeartbeats 1000000 in
theorem rsplit_yes (v1 v2 : Value) (xs : List Int) (bs : List UInt8) (W : World) (hx : IntsS W v1 xs) (hb : Bytes W v2 bs) (hl : xs.length ≤ 1000) (hall : allW xs = true) (hsum : bs.length = sumW xs) :
    Calls Try.prog 32 #[v1, v2] W fun e w' => ∃ a m c, e = .returned (.tuple #[.slice a m c, .int .i64 0]) ∧ OwnU W.heap.size w' (.slice a m c) (splitR xs bs) ∧ Below W.heap.size W w' := by
  obtain ⟨a1, c1, rfl, hc1, hm1⟩ := hx.shape
  obtain ⟨a2, c2, rfl, hc2, hm2⟩ := IsSl.shape hb
  have hsz := rsize_yes _ xs W hx hl hall
  obtain ⟨sm, hsm⟩ : ∃ sm, sumW xs = sm := ⟨_, rfl⟩
  rw [hsm] at hsz hsum
  have q1 : decide (bs.length < sm) = false := by simp; omega
  have q2 : decide (sm < bs.length) = false := by simp; omega
  have HA := Lib.hid hall
  have HS := Lib.hid hsum
  have HM := Lib.hid hsm
  clear hall hsum hsm
  go_enter Try.func32, Try.ntmps32
  go_wp2_with fail
  refine hsz.mono ?_
  rintro e W1 ⟨rfl, rfl⟩
  clear hsz
  go_wp2
  go_loopw [1, 8, 31] (fun b s i wr => ∃ k : Nat, k ≤ xs.length ∧ i = .int .i64 k ∧ RSpInv W wr xs bs s b k) (fun _ _ i _ => xs.length - (intOf i).toNat)
  case atStart => exact ⟨0, by omega, rfl, ⟨World.ownsRow_nil _ _ _ _, by simpa [sumW] using hb, Below.refl _ _⟩⟩
  case round =>
    obtain ⟨k, hk, rfl, hI⟩ := hrel
    by_cases hlt : k < xs.length
    · have hB := hI.bel
      obtain ⟨b1, o1, rfl, x1⟩ := (hx.below hB).get hlt
      obtain ⟨y, hy, g1, g2⟩ := okW_nat (allW_get HA.out k hlt)
      have hmono := sumW_mono xs k hlt
      rw [hy] at x1 hmono
      rw [Int.toNat_natCast] at hmono
      have hyl : y ≤ (bs.drop (sumW (xs.take k))).length := by have := HS.out; have := HM.out; rw [List.length_drop]; omega
      have HSP := Lib.hid (show splitR (xs.take (k + 1)) bs = splitR (xs.take k) bs ++ [numB ((bs.drop (sumW (xs.take k))).take y)] from by rw [take_snoc xs k hlt, splitR_snoc, hy, Int.toNat_natCast])
      have HW := Lib.hid (show bs.drop (sumW (xs.take (k + 1))) = (bs.drop (sumW (xs.take k))).drop y from by rw [take_snoc xs k hlt, sumW_snoc, hy, Int.toNat_natCast, List.drop_drop])
      have hpl : (splitR (xs.take k) bs).length ≤ 1000 := by rw [splitR_len]; simp; omega
      obtain ⟨M, hM⟩ : ∃ M, bs.drop (sumW (xs.take k)) = M := ⟨_, rfl⟩
      have hbt := hI.byt
      rw [hM] at hyl HSP HW hbt
      have HB := Lib.hid hbt
      have HO := Lib.hid hI.own
      clear hy hM hI
      obtain ⟨ab, cb, rfl, _, _⟩ := IsSl.shape hbt
      clear hbt
      go_wp2_with (refine wl_slice_h y rfl rfl rfl (HB.out.below hB) hyl ?_; intro sa sc hsl)
      refine (rnum_any _ _ _ hsl (by simp; omega)).mono ?_
      rintro e W2 ⟨rfl, hB2⟩
      have u2 : Below W.heap.size W W2 := Below.up hB hB2
      have ho2 : OwnU W.heap.size W2 _ _ := ownsRow_below HO.out hB2 (Nat.le_refl _)
      clear x1
      go_wp2_with (first | (refine wl_append W.heap.size elem_u64 rfl rfl rfl (ownsRow_below ho2 (Below.new W2 _) (Nat.le_refl _)) (IsSl.new rfl (by decide)) rfl (by simp [Value.oneCell']) (by unfold maxLen; omega) (by omega) (by have := u2.size; simp; omega) ?_; intro v5 W5 ho5 hg5; have hB5 := below_append (u2.alloc u2.size _) (Nat.le_refl _) (by have := u2.size; simp; omega) (ownsRow_below ho2 (Below.new W2 _) (Nat.le_refl _)) hg5) | (refine wl_slice_lU y rfl rfl rfl (HB.out.below hB5) hyl ?_; intro sa' sc' hsl'))
      go_roundw
      case rel => exact ⟨k + 1, by omega, by go_num, ⟨by rw [HSP.out]; unfold OwnU; rw [List.length_append, List.map_append]; exact ho5, by rw [HW.out]; exact (hsl' _ HB.out).sh, hB5⟩⟩
      case measure => simp only [intOf]; omega
    · obtain rfl : k = xs.length := by omega
      have ho := hI.own
      rw [List.take_length] at ho
      have HO := Lib.hid ho
      obtain ⟨a3, c3, rfl, _⟩ := ownsRow_slice ho
      clear ho
      go_wp2
      refine bodyPost_ret (results_tmp2 rfl _ _ _) rfl ?_
      exact ⟨_, _, _, rfl, HO.out, hI.bel⟩

set_option maxRecDepth 100000 in
set_option maxHeartbeats 1000000 in
theorem rsplit_no (v1 v2 : Value) (xs : List Int) (bs : List UInt8) (W : World) (hx : IntsS W v1 xs) (hb : Bytes W v2 bs) (hl : xs.length ≤ 1000) (hno : splitNo xs bs.length ≠ 0) :
    Calls Try.prog 32 #[v1, v2] W fun e w' => e = .returned (.tuple #[.slice none 0 0, .int .i64 (splitNo xs bs.length)]) ∧ W = w' := by
  obtain ⟨a1, c1, rfl, hc1, hm1⟩ := hx.shape
  obtain ⟨a2, c2, rfl, hc2, hm2⟩ := IsSl.shape hb
  obtain ⟨N, hN⟩ : ∃ N, splitNo xs bs.length = N := ⟨_, rfl⟩
  rw [hN] at hno ⊢
  unfold splitNo at hN
  cases hall : allW xs with
  | false =>
    rw [hall, if_neg (by simp)] at hN
    subst hN
    have hsz := rsize_no _ xs W hx hl hall
    clear hall
    go_enter Try.func32, Try.ntmps32
    go_wp2_with fail
    refine hsz.mono ?_
    rintro e W1 ⟨rfl, rfl⟩
    go_wp2
    refine bodyPost_ret (results_tmp2 rfl _ _ _) rfl ?_
    exact ⟨rfl, rfl⟩
  | true =>
    rw [hall, if_pos rfl] at hN
    have hsz := rsize_yes _ xs W hx hl hall
    obtain ⟨sm, hsm⟩ : ∃ sm, sumW xs = sm := ⟨_, rfl⟩
    rw [hsm] at hsz hN
    clear hall hsm
    by_cases hlt : bs.length < sm
    · rw [if_pos hlt] at hN
      subst hN
      have q1 : decide (bs.length < sm) = true := by simp; omega
      go_enter Try.func32, Try.ntmps32
      go_wp2_with fail
      refine hsz.mono ?_
      rintro e W1 ⟨rfl, rfl⟩
      go_wp2
      refine bodyPost_ret (results_tmp2 rfl _ _ _) rfl ?_
      exact ⟨rfl, rfl⟩
    · rw [if_neg hlt] at hN
      by_cases hgt : sm < bs.length
      · rw [if_pos hgt] at hN
        subst hN
        have q1 : decide (bs.length < sm) = false := by simp; omega
        have q2 : decide (sm < bs.length) = true := by simp; omega
        go_enter Try.func32, Try.ntmps32
        go_wp2_with fail
        refine hsz.mono ?_
        rintro e W1 ⟨rfl, rfl⟩
        go_wp2
        refine bodyPost_ret (results_tmp2 rfl _ _ _) rfl ?_
        exact ⟨rfl, rfl⟩
      · rw [if_neg hgt] at hN
        exact absurd hN.symm hno

end Go.Proofs.Ytpooakhmpfbmgaa
