/- octet.size with an error, gessoref01.Size, octet.Size. -/
import Derived.Test.YtpooakhmpfbmgaaOctInts
namespace Go.Proofs.Ytpooakhmpfbmgaa
open Go.RowKit

set_option maxHeartbeats 400000 in
theorem size_no (v : Value) (xs : List Int) (w : World) (h : IntsS w v xs) (hl : xs.length ≤ 1000) (hx : allW xs = false) :
    Calls Try.prog 58 #[v] w fun e w' => e = .panicked (errP 111) ∧ w = w' := by
  obtain ⟨a, c, rfl, hc1, hc2⟩ := h.shape
  obtain ⟨m, hm, hxm, hbad⟩ := allW_first hx
  have HX := Lib.hid hxm
  have HBAD := Lib.hid hbad
  clear hx hxm hbad
  go_enter Try.func58, Try.ntmps58
  go_wp2
  go_loop [3, 8] (fun s i => ∃ k : Nat, k ≤ m ∧ i = .int .i64 k ∧ s = .int .i64 (sumW (xs.take k))) (fun _ i => xs.length - (intOf i).toNat)
  case atStart => exact ⟨0, by omega, rfl, rfl⟩
  case round =>
    obtain ⟨k, hk, rfl, rfl⟩ := hrel
    have hlt : k < xs.length := by omega
    obtain ⟨b, o, rfl, e1⟩ := h.get hlt
    by_cases hkm : k < m
    · have htk : allW (xs.take k) = true := by
        have := allW_take HX.out k
        rwa [List.take_take, Nat.min_eq_left (by omega)] at this
      have hle := sumW_le _ htk
      have hkl : (xs.take k).length ≤ 1000 := by simp; omega
      have ho : okW xs[k] = true := by
        have := allW_get HX.out k (by simp; omega)
        simpa using this
      obtain ⟨y, hy, g1, g2⟩ := okW_nat ho
      have HS := Lib.hid (show sumW (xs.take (k + 1)) = sumW (xs.take k) + y from by rw [take_snoc xs k hlt, sumW_snoc, hy]; simp)
      rw [hy] at e1 ho
      clear hy htk
      go_wp2_with fail
      refine (c_is y _ _ ho).mono ?_
      rintro e W1 ⟨rfl, rfl⟩
      go_wp2_with fail
      refine (need_true 111 _).mono ?_
      rintro e W1 ⟨rfl, rfl⟩
      go_wp2
      go_round
      case rel => exact ⟨k + 1, by omega, by go_num, by rw [HS.out]; go_num⟩
      case measure => simp only [intOf]; omega
    · obtain rfl : k = m := by omega
      go_wp2_with fail
      refine (c_is _ _ _ HBAD.out).mono ?_
      rintro e W1 ⟨rfl, rfl⟩
      go_wp2_with fail
      refine (need_false 111 _).mono ?_
      rintro e W1 ⟨rfl, rfl⟩
      go_wp2
      exact ⟨rfl, rfl, rfl⟩

theorem c_width (x : Int) (r : Bool) (w : World) (hr : okW x = r) : Calls Try.prog 12 #[.int .i64 x] w fun e w' => e = .returned (.bool r) ∧ w = w' := by
  have := width_any x w
  rwa [hr] at this

set_option maxHeartbeats 400000 in
theorem rsize_yes (v : Value) (xs : List Int) (w : World) (h : IntsS w v xs) (hl : xs.length ≤ 1000) (hx : allW xs = true) :
    Calls Try.prog 28 #[v] w fun e w' => e = .returned (.tuple #[.int .i64 (sumW xs), .bool true]) ∧ w = w' := by
  obtain ⟨a, c, rfl, hc1, hc2⟩ := h.shape
  go_enter Try.func28, Try.ntmps28
  go_wp2
  go_loop [4, 9] (fun s i => ∃ k : Nat, k ≤ xs.length ∧ i = .int .i64 k ∧ s = .int .i64 (sumW (xs.take k))) (fun _ i => xs.length - (intOf i).toNat)
  case atStart => exact ⟨0, by omega, rfl, rfl⟩
  case round =>
    obtain ⟨k, hk, rfl, rfl⟩ := hrel
    by_cases hlt : k < xs.length
    · obtain ⟨b, o, rfl, e1⟩ := h.get hlt
      have hle := sumW_le _ (allW_take hx k)
      have hkl : (xs.take k).length ≤ 1000 := by simp; omega
      have ho := allW_get hx k hlt
      obtain ⟨y, hy, g1, g2⟩ := okW_nat ho
      have HS := Lib.hid (show sumW (xs.take (k + 1)) = sumW (xs.take k) + y from by rw [take_snoc xs k hlt, sumW_snoc, hy]; simp)
      rw [hy] at e1 ho
      clear hy
      go_wp2_with fail
      refine (c_width y _ _ ho).mono ?_
      rintro e W1 ⟨rfl, rfl⟩
      go_wp2
      go_round
      case rel => exact ⟨k + 1, by omega, by go_num, by rw [HS.out]; go_num⟩
      case measure => simp only [intOf]; omega
    · obtain rfl : k = xs.length := by omega
      rw [List.take_length]
      go_wp2
      refine bodyPost_ret (results_tmp2 rfl _ _ _) rfl ?_
      exact ⟨rfl, rfl⟩

set_option maxHeartbeats 400000 in
theorem rsize_no (v : Value) (xs : List Int) (w : World) (h : IntsS w v xs) (hl : xs.length ≤ 1000) (hx : allW xs = false) :
    Calls Try.prog 28 #[v] w fun e w' => e = .returned (.tuple #[.int .i64 0, .bool false]) ∧ w = w' := by
  obtain ⟨a, c, rfl, hc1, hc2⟩ := h.shape
  obtain ⟨m, hm, hxm, hbad⟩ := allW_first hx
  have HX := Lib.hid hxm
  have HBAD := Lib.hid hbad
  clear hx hxm hbad
  go_enter Try.func28, Try.ntmps28
  go_wp2
  go_loop [4, 9] (fun s i => ∃ k : Nat, k ≤ m ∧ i = .int .i64 k ∧ s = .int .i64 (sumW (xs.take k))) (fun _ i => xs.length - (intOf i).toNat)
  case atStart => exact ⟨0, by omega, rfl, rfl⟩
  case round =>
    obtain ⟨k, hk, rfl, rfl⟩ := hrel
    have hlt : k < xs.length := by omega
    obtain ⟨b, o, rfl, e1⟩ := h.get hlt
    by_cases hkm : k < m
    · have htk : allW (xs.take k) = true := by
        have := allW_take HX.out k
        rwa [List.take_take, Nat.min_eq_left (by omega)] at this
      have hle := sumW_le _ htk
      have hkl : (xs.take k).length ≤ 1000 := by simp; omega
      have ho : okW xs[k] = true := by
        have := allW_get HX.out k (by simp; omega)
        simpa using this
      obtain ⟨y, hy, g1, g2⟩ := okW_nat ho
      have HS := Lib.hid (show sumW (xs.take (k + 1)) = sumW (xs.take k) + y from by rw [take_snoc xs k hlt, sumW_snoc, hy]; simp)
      rw [hy] at e1 ho
      clear hy htk
      go_wp2_with fail
      refine (c_width y _ _ ho).mono ?_
      rintro e W1 ⟨rfl, rfl⟩
      go_wp2
      go_round
      case rel => exact ⟨k + 1, by omega, by go_num, by rw [HS.out]; go_num⟩
      case measure => simp only [intOf]; omega
    · obtain rfl : k = m := by omega
      go_wp2_with fail
      refine (c_width _ _ _ HBAD.out).mono ?_
      rintro e W1 ⟨rfl, rfl⟩
      go_wp2
      refine bodyPost_ret (results_tmp2 rfl _ _ _) rfl ?_
      exact ⟨rfl, rfl⟩

/-! ### octet.Size -/
set_option maxRecDepth 100000 in
theorem osize1 (p : Nat) (v : Value) (xs : List Int) (W : World) (hp : Blk W p #[v] 50) (h : IntsS W v xs) (hl : xs.length ≤ 1000) :
    Calls Try.prog 57 #[.pointer (some ⟨p, 0, none⟩)] W fun e w' => e = (if allW xs = true then .returned (.int .i64 (sumW xs)) else .panicked (errP 111)) ∧ W = w' := by
  obtain ⟨a, c, rfl, hc1, hc2⟩ := h.shape
  have e0 : W.cell? ⟨p, 0, none⟩ = some (.slice a xs.length c) := hp.cell 0
  cases hx : allW xs with
  | true =>
    rw [if_pos rfl]
    have hs := size_yes _ xs W h hl hx
    clear hx
    go_enter Try.func57, Try.ntmps57
    go_wp2_with fail
    refine hs.mono ?_
    rintro e W1 ⟨rfl, rfl⟩
    go_wp2
    go_ret
    exact ⟨rfl, rfl⟩
  | false =>
    rw [if_neg (by simp)]
    have hs := size_no _ xs W h hl hx
    clear hx
    go_enter Try.func57, Try.ntmps57
    go_wp2_with fail
    refine hs.mono ?_
    rintro e W1 ⟨rfl, rfl⟩
    go_wp2
    exact ⟨rfl, rfl, rfl⟩

def sizeNo (xs : List Int) : Int := if allW xs then 0 else 111
def sizeV (xs : List Int) : Nat := if allW xs then sumW xs else 0

set_option maxRecDepth 100000 in
set_option maxHeartbeats 1000000 in
theorem osize_any (v : Value) (xs : List Int) (w : World) (h : IntsS w v xs) (hl : xs.length ≤ 1000) :
    Calls Try.prog 27 #[v] w fun e w' => e = .returned (.tuple #[.int .i64 (sizeV xs), .int .i64 (sizeNo xs)]) ∧ Below w.heap.size w w' := by
  obtain ⟨a, c, rfl, hc1, hc2⟩ := h.shape
  have b0 := ((Blk.new w #[.slice a xs.length c] 50).alloc (.cells #[.int .i64 0] 3)).alloc (.cells #[.int .i64 0] 29)
  have c0 := (Blk.new (w.alloc (.cells #[.slice a xs.length c] 50)) #[.int .i64 0] 3).alloc (.cells #[.int .i64 0] 29)
  have c1 := Blk.new ((w.alloc (.cells #[.slice a xs.length c] 50)).alloc (.cells #[.int .i64 0] 3)) #[.int .i64 0] 29
  simp only [World.size_alloc] at c0 c1
  have hBW := Below.upA (Below.upA (Below.new w (.cells #[.slice a xs.length c] 50)) (.cells #[.int .i64 0] 3)) (.cells #[.int .i64 0] 29)
  have H1 := osize1 _ _ xs _ b0 (h.below hBW) hl
  unfold sizeV sizeNo
  cases hx : allW xs with
  | true =>
    rw [hx] at H1
    clear hx
    go_enter Try.func27, Try.ntmps27
    go_wp2_with fail
    refine tries_int 57 _ (fun w => by kernel_rfl) _ _ ?_
    simp only [World.size_alloc]
    refine H1.mono ?_
    rintro e W1 ⟨rfl, rfl⟩
    refine ⟨c0, c1, .inl ⟨_, rfl, ?_⟩⟩
    go_wp2
    refine bodyPost_ret (results_tmp2 rfl _ _ _) rfl ?_
    exact ⟨rfl, by (repeat (first | assumption | exact Below.refl _ _ | refine below_dN ?_ _ | refine Below.alloc ?_ (by first | exact Nat.le_refl _ | omega | (simp; done) | (simp; omega)) _ | refine Below.setCell ?_ (by first | exact Nat.le_refl _ | omega | (simp; done) | (simp; omega)) _ | refine Below.drew ?_ | refine Below.trans ?_ (Below.mono (by assumption) (by first | exact Nat.le_refl _ | omega | (simp; done) | (simp; omega)))))⟩
  | false =>
    rw [hx] at H1
    clear hx
    go_enter Try.func27, Try.ntmps27
    go_wp2_with fail
    refine tries_int 57 _ (fun w => by kernel_rfl) _ _ ?_
    simp only [World.size_alloc]
    refine H1.mono ?_
    rintro e W1 ⟨rfl, rfl⟩
    refine ⟨c0, c1, .inr ⟨_, rfl, fun w2 hb2 => ?_⟩⟩
    have hB2 := Below.setCell (Below.setCell (Below.up hBW hb2) (p := ⟨w.heap.size + 1, 0, none⟩) (by simp) (.int .i64 0)) (p := ⟨w.heap.size + 1 + 1, 0, none⟩) (by simp; omega) (.int .i64 111)
    go_wp2
    refine bodyPost_ret (results_tmp2 rfl _ _ _) rfl ?_
    exact ⟨rfl, hB2⟩

end Go.Proofs.Ytpooakhmpfbmgaa
