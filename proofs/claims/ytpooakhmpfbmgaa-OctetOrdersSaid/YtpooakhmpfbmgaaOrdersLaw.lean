/- gessolaw01.OctetOrders: its walk. -/
import Derived.Test.YtpooakhmpfbmgaaOctCmp
namespace Go.Proofs.Ytpooakhmpfbmgaa
open Go.RowKit

theorem layNo_zero {x : Int} {n : Nat} (h : layNo x n = 0) : ∃ k : Nat, x = k ∧ 1 ≤ k ∧ k ≤ 8 ∧ fitsB k n = true := by
  unfold layNo at h
  split at h
  · rename_i hx
    obtain ⟨k, rfl, g1, g2⟩ := okW_nat hx
    refine ⟨k, rfl, g1, g2, ?_⟩
    split at h
    · assumption
    · cases h
  · cases h

theorem c_putnil_yes (k n : Nat) (w : World) (g1 : 1 ≤ k) (g2 : k ≤ 8) (g3 : fitsB k n = true) :
    Calls Try.prog 11 #[.slice none 0 0, .int .i64 k, .int .u64 n] w fun e w' => ∃ a c, e = .returned (.tuple #[.slice a k c, .int .i64 0]) ∧ Bytes w' (.slice a k c) (layB k n) ∧ Below w.heap.size w w' := by
  refine (put_yes k n _ [] w (bytes_nil w) (by simp) g1 g2 g3).mono ?_
  rintro e w' ⟨a, m, c, rfl, ho, hb⟩
  rw [List.nil_append] at ho
  obtain rfl : m = k := by have := ho.bytes.at; rwa [layB_len] at this
  exact ⟨a, c, rfl, ho.bytes, hb⟩
theorem c_putnil_no (x : Int) (n : Nat) (w : World) (hn : n < 18446744073709551616) (hno : layNo x n ≠ 0) :
    Calls Try.prog 11 #[.slice none 0 0, .int .i64 x, .int .u64 n] w fun e w' => ∃ N : Int, N ≠ 0 ∧ e = .returned (.tuple #[.slice none 0 0, .int .i64 N]) ∧ Below w.heap.size w w' := by
  refine (put_no x n _ [] w (bytes_nil w) hn hno).mono ?_
  rintro e w' ⟨rfl, hb⟩
  exact ⟨_, hno, rfl, hb⟩

set_option maxRecDepth 100000 in
set_option maxHeartbeats 1000000 in
theorem orders_main (k a b : Nat) (w : World) (g1 : 1 ≤ k) (g2 : k ≤ 8) (ha : fitsB k a = true) (hb : fitsB k b = true) (z : Int) (zl zq al aq : Bool) (hz : cmpB (layB k a) (layB k b) = z) (p1 : decide (z < 0) = zl) (p2 : (z == 0) = zq) (p3 : decide (a < b) = al) (p4 : ((a : Int) == (b : Int)) = aq) (q1 : zl = al) (q2 : zq = aq) :
    Calls Try.prog 8 #[.int .i64 k, .int .u64 a, .int .u64 b] w fun e w' => e = .returned (.bool true) ∧ Below w.heap.size w w' := by
  subst q1 q2
  have HZ := Lib.hid hz
  have HA := Lib.hid ha
  have HB := Lib.hid hb
  clear hz ha hb
  go_enter Try.func8, Try.ntmps8
  go_wp2_with fail
  refine (wakes_any _).mono ?_
  rintro e W1 ⟨rfl, B1⟩
  go_wp2_with fail
  refine (c_putnil_yes k a _ g1 g2 HA.out).mono ?_
  rintro e W2 ⟨a2, c2, rfl, h2, B2⟩
  go_wp2_with fail
  refine (c_putnil_yes k b _ g1 g2 HB.out).mono ?_
  rintro e W3 ⟨a3, c3, rfl, h3, B3⟩
  replace h2 := h2.below B3
  go_wp2_with fail
  refine (compare_any _ _ _ _ _ h2 h3 (by rw [layB_len, layB_len])).mono ?_
  rintro e W4 ⟨rfl, rfl⟩
  rw [HZ.out]
  cases zl <;> cases zq
  all_goals
    go_wp2
    go_ret
    exact ⟨rfl, Below.up (Below.up B1 B2) B3⟩

set_option maxRecDepth 100000 in
set_option maxHeartbeats 1000000 in
theorem law_orders (x : Int) (a b : Nat) (w : World) (_ : (Lit.int .i64 x).wf = true) (ha : a < 18446744073709551616) (hb : b < 18446744073709551616) :
    Calls Try.prog 8 #[.int .i64 x, .int .u64 a, .int .u64 b] w fun e w' => e = .returned (.bool true) ∧ Below w.heap.size w w' := by
  by_cases n1 : layNo x a = 0
  · obtain ⟨k, rfl, g1, g2, f1⟩ := layNo_zero n1
    by_cases n2 : layNo k b = 0
    · obtain ⟨k', hk, _, _, f2⟩ := layNo_zero n2
      obtain rfl : k = k' := by omega
      obtain ⟨c1, c2⟩ := cmp_num (layB k a) (layB k b) (by rw [layB_len, layB_len])
      have e1 : numB (layB k a) = a := by rw [numB_layB, Nat.mod_eq_of_lt (fitsB_lt f1)]
      have e2 : numB (layB k b) = b := by rw [numB_layB, Nat.mod_eq_of_lt (fitsB_lt f2)]
      rw [e1, e2] at c1 c2
      refine orders_main k a b w g1 g2 f1 f2 _ _ _ _ _ rfl rfl rfl rfl rfl ?_ ?_
      · rw [decide_eq_decide]; exact c1
      · rw [Bool.eq_iff_iff, beq_iff_eq, beq_iff_eq, c2]; omega
    · have N2 := Lib.hid n2
      clear n1 n2
      go_enter Try.func8, Try.ntmps8
      go_wp2_with fail
      refine (wakes_any _).mono ?_
      rintro e W1 ⟨rfl, B1⟩
      go_wp2_with fail
      refine (c_putnil_yes k a _ g1 g2 f1).mono ?_
      rintro e W2 ⟨a2, c2, rfl, h2, B2⟩
      go_wp2_with fail
      refine (c_putnil_no k b _ hb N2.out).mono ?_
      rintro e W3 ⟨N, hN, rfl, B3⟩
      have q1 : (N != 0) = true := by simp [hN]
      go_wp2
      go_ret
      exact ⟨rfl, Below.up (Below.up B1 B2) B3⟩
  · have N1 := Lib.hid n1
    clear n1
    by_cases n2 : layNo x b = 0
    · obtain ⟨k, rfl, g1, g2, f2⟩ := layNo_zero n2
      clear n2
      go_enter Try.func8, Try.ntmps8
      go_wp2_with fail
      refine (wakes_any _).mono ?_
      rintro e W1 ⟨rfl, B1⟩
      go_wp2_with fail
      refine (c_putnil_no k a _ ha N1.out).mono ?_
      rintro e W2 ⟨N, hN, rfl, B2⟩
      have q1 : (N != 0) = true := by simp [hN]
      go_wp2_with fail
      refine (c_putnil_yes k b _ g1 g2 f2).mono ?_
      rintro e W3 ⟨a3, c3, rfl, h3, B3⟩
      go_wp2
      go_ret
      exact ⟨rfl, Below.up (Below.up B1 B2) B3⟩
    · have N2 := Lib.hid n2
      clear n2
      go_enter Try.func8, Try.ntmps8
      go_wp2_with fail
      refine (wakes_any _).mono ?_
      rintro e W1 ⟨rfl, B1⟩
      go_wp2_with fail
      refine (c_putnil_no x a _ ha N1.out).mono ?_
      rintro e W2 ⟨N, hN, rfl, B2⟩
      have q1 : (N != 0) = true := by simp [hN]
      go_wp2_with fail
      refine (c_putnil_no x b _ hb N2.out).mono ?_
      rintro e W3 ⟨M, hM, rfl, B3⟩
      go_wp2
      go_ret
      exact ⟨rfl, Below.up (Below.up B1 B2) B3⟩

end Go.Proofs.Ytpooakhmpfbmgaa
