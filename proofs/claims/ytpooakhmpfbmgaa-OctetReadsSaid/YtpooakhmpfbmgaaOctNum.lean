/- octet, gessoref01: numbers as bytes. -/
import Derived.Test.YtpooakhmpfbmgaaOctSmall
import Derived.Test.YtpooakhmpfbmgaaBy
namespace Go.Proofs.Ytpooakhmpfbmgaa
open Go.RowKit

/-- the last bytes of a number, the lowest one last -/
def layB : Nat → Nat → List UInt8
  | 0, _ => []
  | k + 1, n => layB k (n / 256) ++ [UInt8.ofNat (n % 256)]
/-- the number of bytes -/
def numB (l : List UInt8) : Nat := l.foldl (fun n x => 256 * n + x.toNat) 0
/-- has a number a width? -/
def fitsB (k n : Nat) : Bool := decide (n / 256 ^ k = 0)

theorem layB_len : ∀ (k n : Nat), (layB k n).length = k
  | 0, _ => rfl
  | k + 1, n => by simp [layB, layB_len k]
theorem numB_snoc (l : List UInt8) (x : UInt8) : numB (l ++ [x]) = 256 * numB l + x.toNat := by simp [numB]
theorem foldB_lt : ∀ (l : List UInt8) (a : Nat), l.foldl (fun n x => 256 * n + x.toNat) a < (a + 1) * 256 ^ l.length
  | [], a => by simp
  | x :: l, a => by
    have h := foldB_lt l (256 * a + x.toNat)
    have hx := x.toNat_lt
    have h2 : (256 * a + x.toNat + 1) * 256 ^ l.length ≤ (256 * (a + 1)) * 256 ^ l.length := Nat.mul_le_mul_right _ (by omega)
    simp only [List.foldl_cons, List.length_cons, Nat.pow_succ]
    refine Nat.lt_of_lt_of_le h (Nat.le_trans h2 (Nat.le_of_eq ?_))
    rw [Nat.mul_comm 256 (a + 1), Nat.mul_assoc, Nat.mul_comm 256]
theorem numB_lt (l : List UInt8) : numB l < 256 ^ l.length := by
  have := foldB_lt l 0
  simpa [numB] using this
theorem take_snoc {α : Type} (l : List α) (k : Nat) (h : k < l.length) : l.take (k + 1) = l.take k ++ [l[k]] := List.take_succ_eq_append_getElem h
theorem pow_le8 {k : Nat} (h : k ≤ 8) : 256 ^ k ≤ 18446744073709551616 := by
  have := Nat.pow_le_pow_right (n := 256) (by omega) h
  exact this

set_option maxHeartbeats 400000 in
theorem fits_any (k n : Nat) (w : World) (hk : k ≤ 8) (hn : n < 18446744073709551616) :
    Calls Try.prog 13 #[.int .i64 k, .int .u64 n] w fun e w' => e = .returned (.bool (fitsB k n)) ∧ Below w.heap.size w w' := by
  go_enter Try.func13, Try.ntmps13
  go_wp2
  go_loopw [1, 6] (fun m i wr => ∃ j : Nat, j ≤ k ∧ i = .int .i64 j ∧ m = .int .u64 (n / 256 ^ j : Nat) ∧ Below w.heap.size w wr) (fun _ i _ => k - (intOf i).toNat)
  case atStart => exact ⟨0, by omega, rfl, by simp, Below.refl _ _⟩
  case round =>
    obtain ⟨j, hj, rfl, rfl, hB⟩ := hrel
    obtain ⟨m, hm⟩ : ∃ m, n / 256 ^ j = m := ⟨_, rfl⟩
    have hm64 : m < 18446744073709551616 := by rw [← hm]; exact Nat.lt_of_le_of_lt (Nat.div_le_self _ _) hn
    rw [hm]
    have HM := Lib.hid hm
    clear hm
    by_cases hlt : j < k
    · go_wp2
      go_roundw
      case rel => exact ⟨j + 1, by omega, by go_num, by rw [Nat.pow_succ, ← Nat.div_div_eq_div_mul, HM.out]; exact congrArg _ (by omega), hB⟩
      case measure => simp only [intOf]; omega
    · obtain rfl : j = k := by omega
      by_cases h0 : m = 0
      · subst h0
        go_wp2
        go_ret
        exact ⟨by simp [fitsB, HM.out], hB⟩
      · have hq : ((m : Int) == 0) = false := by rw [beq_eq_false_iff_ne]; omega
        go_wp2
        go_ret
        exact ⟨by simp [fitsB, HM.out, h0], hB⟩

set_option maxHeartbeats 400000 in
theorem rnum_any (v : Value) (l : List UInt8) (w : World) (h : Bytes w v l) (hl : l.length ≤ 8) :
    Calls Try.prog 17 #[v] w fun e w' => e = .returned (.int .u64 (numB l)) ∧ Below w.heap.size w w' := by
  obtain ⟨a, c, rfl, hc, hm, _, r⟩ := h
  go_enter Try.func17, Try.ntmps17
  go_wp2
  go_loopw [3, 8] (fun m i wr => ∃ j : Nat, j ≤ l.length ∧ i = .int .i64 j ∧ m = .int .u64 (numB (l.take j)) ∧ Below w.heap.size w wr) (fun _ i _ => l.length - (intOf i).toNat)
  case atStart => exact ⟨0, by omega, rfl, rfl, Below.refl _ _⟩
  case round =>
    obtain ⟨j, hj, rfl, rfl, hB⟩ := hrel
    by_cases hlt : j < l.length
    · obtain ⟨b, o, rfl, e1⟩ := r j (vb l[j]) (by simp [hlt])
      have e1' := (hB.cell (p := ⟨b, o + j, none⟩) (World.block_lt_of_cell? w _ e1)).trans e1
      have hs := numB_snoc (l.take j) l[j]
      rw [← take_snoc l j hlt] at hs
      have hb := numB_lt (l.take (j + 1))
      have hp := pow_le8 (show (l.take (j + 1)).length ≤ 8 by simp; omega)
      obtain ⟨m, hm⟩ : ∃ m, numB (l.take j) = m := ⟨_, rfl⟩
      rw [hm] at hs ⊢
      have hm64 : 256 * m + l[j].toNat < 18446744073709551616 := by omega
      have HS := Lib.hid hs
      clear hm hs hb hp e1 r
      go_wp2
      go_roundw
      case rel => exact ⟨j + 1, by omega, by go_num, by rw [HS.out]; exact congrArg _ (by omega), hB⟩
      case measure => simp only [intOf]; omega
    · obtain rfl : j = l.length := by omega
      go_wp2
      go_ret
      exact ⟨by simp, hB⟩

set_option maxHeartbeats 400000 in
theorem num_any (v : Value) (l : List UInt8) (w : World) (h : Bytes w v l) (hl : l.length ≤ 8) :
    Calls Try.prog 52 #[v] w fun e w' => e = .returned (.int .u64 (numB l)) ∧ Below w.heap.size w w' := by
  obtain ⟨a, c, rfl, hc, hm, _, r⟩ := h
  go_enter Try.func52, Try.ntmps52
  go_wp2
  go_loopw [3, 8] (fun m i wr => ∃ j : Nat, j ≤ l.length ∧ i = .int .i64 j ∧ m = .int .u64 (numB (l.take j)) ∧ Below w.heap.size w wr) (fun _ i _ => l.length - (intOf i).toNat)
  case atStart => exact ⟨0, by omega, rfl, rfl, Below.refl _ _⟩
  case round =>
    obtain ⟨j, hj, rfl, rfl, hB⟩ := hrel
    by_cases hlt : j < l.length
    · obtain ⟨b, o, rfl, e1⟩ := r j (vb l[j]) (by simp [hlt])
      have e1' := (hB.cell (p := ⟨b, o + j, none⟩) (World.block_lt_of_cell? w _ e1)).trans e1
      have hs := numB_snoc (l.take j) l[j]
      rw [← take_snoc l j hlt] at hs
      have hb := numB_lt (l.take (j + 1))
      have hp := pow_le8 (show (l.take (j + 1)).length ≤ 8 by simp; omega)
      obtain ⟨m, hm⟩ : ∃ m, numB (l.take j) = m := ⟨_, rfl⟩
      rw [hm] at hs ⊢
      have hm64 : 256 * m + l[j].toNat < 18446744073709551616 := by omega
      have HS := Lib.hid hs
      clear hm hs hb hp e1 r
      go_wp2
      go_roundw
      case rel => exact ⟨j + 1, by omega, by go_num, by rw [HS.out]; exact congrArg _ (bits_or_u64 m _ hm64 (l[j].toNat_lt)), hB⟩
      case measure => simp only [intOf]; omega
    · obtain rfl : j = l.length := by omega
      go_wp2
      go_ret
      exact ⟨by simp, hB⟩

set_option maxHeartbeats 400000 in
theorem rlay_any (k n : Nat) (w : World) (hk : k ≤ 8) (hn : n < 18446744073709551616) :
    Calls Try.prog 15 #[.int .i64 k, .int .u64 n] w fun e w' => ∃ v, e = .returned v ∧ OwnB w.heap.size w' v (layB k n) ∧ Below w.heap.size w w' := by
  go_enter Try.func15, Try.ntmps15
  go_wp2
  go_loopw [1, 5, 7] (fun m s i wr => ∃ (j p : Nat) (out : List UInt8), j ≤ k ∧ i = .int .i64 j ∧ m = .int .u64 p ∧ p < 18446744073709551616 ∧ OwnB w.heap.size wr s out ∧ out.length = j ∧ layB (k - j) p ++ out = layB k n ∧ Below w.heap.size w wr) (fun _ _ i _ => k - (intOf i).toNat)
  case atStart => exact ⟨0, n, [], by omega, rfl, rfl, hn, World.ownsRow_nil _ _ _ _, rfl, by simp, Below.refl _ _⟩
  case round =>
    obtain ⟨j, p, out, hj, rfl, rfl, hp, ho, hol, hx, hB⟩ := hrel
    have HX := Lib.hid hx
    clear hx
    by_cases hlt : j < k
    · go_wp2_with (at_builtin; simp only [vb_mod]; refine wl_append_bytes w.heap.size rfl rfl rfl (one_own (UInt8.ofNat (p % 256)) hB.size) (ho.bytes.below (Below.new wr _)) (by simp; omega) (by simp; exact Nat.le_succ_of_le hB.size) ?_; intro v5 W5 ho5 hB5)
      go_roundw
      case rel =>
        refine ⟨j + 1, p / 256, UInt8.ofNat (p % 256) :: out, by omega, by go_num, congrArg _ (by omega), by omega, ho5, by simp; omega, ?_, Below.trans (Below.alloc hB hB.size _) hB5⟩
        rw [← HX.out, show k - j = (k - (j + 1)) + 1 from by omega, layB]
        simp
      case measure => simp only [intOf]; omega
    · obtain rfl : j = k := by omega
      go_wp2
      go_ret
      refine ⟨_, rfl, ?_, hB⟩
      have := HX.out
      rw [Nat.sub_self] at this
      rw [← this]
      simpa [layB] using ho

theorem layB_front : ∀ (k n : Nat), layB (k + 1) n = UInt8.ofNat (n / 256 ^ k % 256) :: layB k n
  | 0, n => by simp [layB]
  | k + 1, n => by
    rw [layB, layB_front k (n / 256)]
    rw [show layB (k + 1) n = layB k (n / 256) ++ [UInt8.ofNat (n % 256)] from rfl, Nat.div_div_eq_div_mul, Nat.pow_succ, Nat.mul_comm (256 ^ k)]
    rfl
theorem layB_drop (k n : Nat) : ∀ d : Nat, (layB (d + k) n).drop d = layB k n
  | 0 => by simp
  | d + 1 => by
    rw [show d + 1 + k = (d + k) + 1 from by omega, layB_front, List.drop_succ_cons]
    exact layB_drop k n d
theorem lay_step (j n : Nat) (h : j < 8) : (((List.replicate (8 - j) 0 ++ layB j n).map vb).toArray).setIfInBounds (7 - j) (.int .u8 ((n : Int) / 2 ^ (8 * j) % 256)) = ((List.replicate (8 - (j + 1)) 0 ++ layB (j + 1) n).map vb).toArray := by
  have e : (2 : Int) ^ (8 * j) = ((256 ^ j : Nat) : Int) := by
    rw [Int.pow_mul, Int.natCast_pow, show ((2 : Int) ^ 8) = ((256 : Nat) : Int) from by decide]
  have e2 : ((n : Int) / 2 ^ (8 * j) % 256) = ((n / 256 ^ j : Nat) : Int) % 256 := by rw [e]; rfl
  rw [e2, vb_mod, layB_front, show 8 - j = (7 - j) + 1 from by omega, List.replicate_succ', show 8 - (j + 1) = 7 - j from by omega]
  simp only [List.map_append, List.append_assoc, List.setIfInBounds_toArray]
  congr 1
  rw [List.set_append_right _ _ (by simp)]
  simp
theorem numB_layB : ∀ (k n : Nat), numB (layB k n) = n % 256 ^ k
  | 0, n => by simp [layB, numB, Nat.mod_one]
  | k + 1, n => by
    rw [layB, numB_snoc, numB_layB k (n / 256), Nat.pow_succ]
    have h : (UInt8.ofNat (n % 256)).toNat = n % 256 := by simp
    rw [h, Nat.mul_comm (256 ^ k) 256, Nat.mod_mul]
    omega
theorem fitsB_lt {k n : Nat} (h : fitsB k n = true) : n < 256 ^ k := by
  have := of_decide_eq_true h
  exact (Nat.div_eq_zero_iff.1 this).resolve_left (by have := Nat.pow_pos (n := k) (show 0 < 256 by omega); omega)

end Go.Proofs.Ytpooakhmpfbmgaa
