/- octet.laid. -/
import Derived.Test.YtpooakhmpfbmgaaOctNum
namespace Go.Proofs.Ytpooakhmpfbmgaa
open Go.RowKit
theorem op_slice_arr {dst : Option Tmp} {x lo : Operand} {ty : TypeId} {pos : String} {af : Array Edge} {g : Option (Nat × Bool)} (ev : Operand → Value) (w : World) (b k : Nat) (h1 : 1 ≤ k) (h2 : k ≤ 8) (hx : ev x = .pointer (some ⟨b, 0, none⟩)) (hl : ev lo = .int .i64 ((8 - k : Nat) : Int)) :
    (execOp ev ⟨dst, .slice 100 x (some lo) none none, ty, pos, af, g⟩).run Try.prog w = .ok (.value (.slice (some ⟨b, 8 - k, none⟩) k k)) w := by
  have e : k = 1 ∨ k = 2 ∨ k = 3 ∨ k = 4 ∨ k = 5 ∨ k = 6 ∨ k = 7 ∨ k = 8 := by omega
  have h : (Instr.sliceAt 100 (.pointer (some ⟨b, 0, none⟩)) (some (.int .i64 ((8 - k : Nat) : Int))) none none).run Try.prog w = .ok (.slice (some ⟨b, 8 - k, none⟩) k k) w := by
    rcases e with rfl | rfl | rfl | rfl | rfl | rfl | rfl | rfl <;> kernel_rfl
  simp only [execOp, Option.map_some, Option.map_none, hx, hl, Sem.run_bind, h, Result.andThen_ok, Sem.run_pure]
theorem laid_sl {w : World} {b k n : Nat} (h : Blk w b (((List.replicate (8 - 8) 0 ++ layB 8 n).map vb).toArray) 100) (hk : k ≤ 8) : Bytes w (.slice (some ⟨b, 8 - k, none⟩) k k) (layB k n) := by
  rw [show 8 - 8 = 0 from rfl, List.replicate_zero, List.nil_append] at h
  refine ⟨some ⟨b, 8 - k, none⟩, k, by rw [layB_len], by rw [layB_len]; exact Nat.le_refl _, by unfold maxLen; omega, by simp, fun j u hu => ⟨b, 8 - k, rfl, ?_⟩⟩
  rw [h.cell, List.getElem?_toArray, ← hu, ← layB_drop k n (8 - k), show 8 - k + k = 8 from by omega, List.map_drop, List.getElem?_drop]

theorem c_is (x : Int) (r : Bool) (w : World) (hr : okW x = r) : Calls Try.prog 51 #[.int .i64 x] w fun e w' => e = .returned (.bool r) ∧ w = w' := by
  have := is_any x w
  rwa [hr] at this
theorem okW_nat {x : Int} (h : okW x = true) : ∃ k : Nat, x = k ∧ 1 ≤ k ∧ k ≤ 8 := by
  have := of_decide_eq_true h
  exact ⟨x.toNat, by omega, by omega, by omega⟩
theorem okW_of {k : Nat} (h1 : 1 ≤ k) (h2 : k ≤ 8) : okW (k : Int) = true := by
  simp [okW]; omega

theorem shr_fits (k n : Nat) : ((n : Int) / 2 ^ (8 * k) == 0) = fitsB k n := by
  have h : (2 : Int) ^ (8 * k) = ((256 ^ k : Nat) : Int) := by
    rw [Int.pow_mul, Int.natCast_pow, show ((2 : Int) ^ 8) = ((256 : Nat) : Int) from by decide]
  rw [h]
  unfold fitsB
  by_cases h0 : n / 256 ^ k = 0
  · simp only [h0, decide_true]; rw [beq_iff_eq]; omega
  · simp only [h0, decide_false]; rw [beq_eq_false_iff_ne]; omega
theorem c_need_true (b : Bool) (n : Int) (w : World) (hb : b = true) : Calls Try.prog 50 #[.bool b, .int .i64 n] w fun e w' => e = .returned (.tuple #[]) ∧ w = w' := by
  subst hb; exact need_true n w
theorem c_need_false (b : Bool) (n : Int) (w : World) (hb : b = false) : Calls Try.prog 50 #[.bool b, .int .i64 n] w fun e w' => e = .panicked (errP n) ∧ w = w' := by
  subst hb; exact need_false n w

set_option maxHeartbeats 400000 in
theorem laid_no (x : Int) (n : Nat) (w : World) (hx : okW x = false) :
    Calls Try.prog 47 #[.int .i64 x, .int .u64 n] w fun e w' => e = .panicked (errP 111) ∧ Below w.heap.size w w' := by
  go_enter Try.func47, Try.ntmps47
  go_wp2_with fail
  refine (c_is x _ _ hx).mono ?_
  rintro e W1 ⟨rfl, rfl⟩
  go_wp2_with fail
  refine (need_false 111 _).mono ?_
  rintro e W1 ⟨rfl, rfl⟩
  go_wp2
  exact ⟨rfl, rfl, Below.refl _ _⟩

set_option maxHeartbeats 400000 in
theorem laid_big (k n : Nat) (w : World) (h1 : 1 ≤ k) (h2 : k ≤ 8) (hn : n < 18446744073709551616) (hf : fitsB k n = false) :
    Calls Try.prog 47 #[.int .i64 k, .int .u64 n] w fun e w' => e = .panicked (errP 112) ∧ Below w.heap.size w w' := by
  have hk := okW_of h1 h2
  have h8 : k ≠ 8 := by
    rintro rfl
    have := of_decide_eq_false hf
    exact this (Nat.div_eq_of_lt (by omega))
  have h8' : ((k : Int) == 8) = false := by rw [beq_eq_false_iff_ne]; omega
  go_enter Try.func47, Try.ntmps47
  go_wp2_with fail
  refine (c_is k _ _ hk).mono ?_
  rintro e W1 ⟨rfl, rfl⟩
  go_wp2_with fail
  refine (need_true 111 _).mono ?_
  rintro e W1 ⟨rfl, rfl⟩
  go_wp2_with fail
  refine (c_need_false _ 112 _ (by rw [shr_fits]; exact hf)).mono ?_
  rintro e W1 ⟨rfl, rfl⟩
  go_wp2
  exact ⟨rfl, rfl, Below.refl _ _⟩

set_option maxRecDepth 100000 in
set_option maxHeartbeats 400000 in
theorem laid_yes (k n : Nat) (w : World) (h1 : 1 ≤ k) (h2 : k ≤ 8) (hf : fitsB k n = true) :
    Calls Try.prog 47 #[.int .i64 k, .int .u64 n] w fun e w' => ∃ v, e = .returned v ∧ Bytes w' v (layB k n) ∧ Below w.heap.size w w' := by
  have hk := okW_of h1 h2
  obtain ⟨z, hz⟩ : ∃ z, ((k : Int) == 8) = z := ⟨_, rfl⟩
  have HZ := Lib.hid hz
  go_enter Try.func47, Try.ntmps47
  go_wp2_with fail
  refine (c_is k _ _ hk).mono ?_
  rintro e W1 ⟨rfl, rfl⟩
  go_wp2_with fail
  refine (need_true 111 _).mono ?_
  rintro e W1 ⟨rfl, rfl⟩
  have HN : ∀ W, Calls Try.prog 50 #[.bool (if z then true else ((n : Int) / 2 ^ (8 * k) == 0)), .int .i64 112] W fun e w' => e = .returned (.tuple #[]) ∧ W = w' := fun W => by
    refine c_need_true _ 112 _ ?_
    cases z
    · simp only [Bool.false_eq_true, if_false]; rw [shr_fits]; exact hf
    · rfl
  cases z
  · go_wp2_with fail
    refine (HN _).mono ?_
    rintro e W1 ⟨rfl, rfl⟩
    go_wp2
    have hb0 := Blk.new w #[vb 0, vb 0, vb 0, vb 0, vb 0, vb 0, vb 0, vb 0] 100
    have hB0 := Below.new w (.cells #[vb 0, vb 0, vb 0, vb 0, vb 0, vb 0, vb 0, vb 0] 100)
    go_loopw [6, 20] (fun _ i wr => ∃ j : Nat, j ≤ 8 ∧ i = .int .i64 j ∧ Blk wr w.heap.size (((List.replicate (8 - j) 0 ++ layB j n).map vb).toArray) 100 ∧ Below w.heap.size w wr) (fun _ i _ => 8 - (intOf i).toNat)
    case atStart => exact ⟨0, by omega, rfl, hb0, hB0⟩
    case round =>
      obtain ⟨j, hj, rfl, hb, hB⟩ := hrel
      by_cases hlt : j < 8
      · obtain ⟨q0, r, l⟩ := hb.all
        have q : wr.cell? ⟨w.heap.size, 7 - j, none⟩ = some (vb 0) := by
          rw [q0]
          simp only [List.getElem?_toArray, List.getElem?_map]
          rw [List.getElem?_append_left (by simp; omega), List.getElem?_replicate, if_pos (by omega)]
          rfl
        have hb2 := hb.set (7 - j) (.int .u8 ((n : Int) / 2 ^ (8 * j) % 256))
        rw [lay_step j n hlt] at hb2
        have hB2 := Below.setCell hB (p := ⟨w.heap.size, 7 - j, none⟩) (Nat.le_refl _) (.int .u8 ((n : Int) / 2 ^ (8 * j) % 256))
        clear q0 hb
        go_wp2
        go_roundw
        case rel => exact ⟨j + 1, by omega, by go_num, hb2, hB2⟩
        case measure => simp only [intOf]; omega
      · obtain rfl : j = 8 := by omega
        have ho := Lib.hid (laid_sl hb h2)
        have hk8 : ((8 : Int) - (k : Int)) = ((8 - k : Nat) : Int) := by omega
        clear hb hj hlt hb0 hB0 hz HZ HN
        go_wp2_with (refine wl_of rfl (op_slice_arr _ _ w.heap.size k h1 h2 rfl rfl) ?_)
        go_ret
        exact ⟨_, rfl, ho.out, hB⟩
  · go_wp2_with fail
    refine (HN _).mono ?_
    rintro e W1 ⟨rfl, rfl⟩
    go_wp2
    have hb0 := Blk.new w #[vb 0, vb 0, vb 0, vb 0, vb 0, vb 0, vb 0, vb 0] 100
    have hB0 := Below.new w (.cells #[vb 0, vb 0, vb 0, vb 0, vb 0, vb 0, vb 0, vb 0] 100)
    go_loopw [6, 20] (fun _ i wr => ∃ j : Nat, j ≤ 8 ∧ i = .int .i64 j ∧ Blk wr w.heap.size (((List.replicate (8 - j) 0 ++ layB j n).map vb).toArray) 100 ∧ Below w.heap.size w wr) (fun _ i _ => 8 - (intOf i).toNat)
    case atStart => exact ⟨0, by omega, rfl, hb0, hB0⟩
    case round =>
      obtain ⟨j, hj, rfl, hb, hB⟩ := hrel
      by_cases hlt : j < 8
      · obtain ⟨q0, r, l⟩ := hb.all
        have q : wr.cell? ⟨w.heap.size, 7 - j, none⟩ = some (vb 0) := by
          rw [q0]
          simp only [List.getElem?_toArray, List.getElem?_map]
          rw [List.getElem?_append_left (by simp; omega), List.getElem?_replicate, if_pos (by omega)]
          rfl
        have hb2 := hb.set (7 - j) (.int .u8 ((n : Int) / 2 ^ (8 * j) % 256))
        rw [lay_step j n hlt] at hb2
        have hB2 := Below.setCell hB (p := ⟨w.heap.size, 7 - j, none⟩) (Nat.le_refl _) (.int .u8 ((n : Int) / 2 ^ (8 * j) % 256))
        clear q0 hb
        go_wp2
        go_roundw
        case rel => exact ⟨j + 1, by omega, by go_num, hb2, hB2⟩
        case measure => simp only [intOf]; omega
      · obtain rfl : j = 8 := by omega
        have ho := Lib.hid (laid_sl hb h2)
        have hk8 : ((8 : Int) - (k : Int)) = ((8 - k : Nat) : Int) := by omega
        clear hb hj hlt hb0 hB0 hz HZ HN
        go_wp2_with (refine wl_of rfl (op_slice_arr _ _ w.heap.size k h1 h2 rfl rfl) ?_)
        go_ret
        exact ⟨_, rfl, ho.out, hB⟩

end Go.Proofs.Ytpooakhmpfbmgaa
