/- octet.Get. -/
import Derived.Test.YtpooakhmpfbmgaaOctPut
namespace Go.Proofs.Ytpooakhmpfbmgaa
open Go.RowKit

/-- why no number stands there; 0: one does -/
def getNo (at_ x : Int) (n : Nat) : Int := if okW x then (if 0 ≤ at_ ∧ at_ ≤ n then (if x ≤ n - at_ then 0 else 110) else 2) else 111

set_option maxRecDepth 100000 in
theorem get1_yes (p0 p1 p2 k m : Nat) (bv : Value) (l : List UInt8) (W : World) (h0 : Blk W p0 #[.int .i64 k] 3) (h1 : Blk W p1 #[.int .i64 m] 3) (h2 : Blk W p2 #[bv] 22) (hb : Bytes W bv l) (hl : l.length ≤ 100000)
    (g1 : 1 ≤ k) (g2 : k ≤ 8) (g3 : m + k ≤ l.length) :
    Calls Try.prog 49 #[.pointer (some ⟨p0, 0, none⟩), .pointer (some ⟨p1, 0, none⟩), .pointer (some ⟨p2, 0, none⟩)] W fun e w' => e = .returned (.int .u64 (numB ((l.drop m).take k))) ∧ Below W.heap.size W w' := by
  obtain ⟨ba, bc, rfl, hc, hm, _⟩ := id hb
  unfold maxLen at hm
  have e0 : W.cell? ⟨p0, 0, none⟩ = some (.int .i64 k) := h0.cell 0
  have e1 : W.cell? ⟨p1, 0, none⟩ = some (.int .i64 m) := h1.cell 0
  have e2 : W.cell? ⟨p2, 0, none⟩ = some (.slice ba l.length bc) := h2.cell 0
  have HB := Lib.hid hb
  have hk := okW_of g1 g2
  have q1 : decide ((m : Int) ≤ (l.length : Int)) = true := by simp; omega
  have q2 : decide ((k : Int) ≤ (l.length : Int) - (m : Int)) = true := by simp; omega
  clear hb
  go_enter Try.func49, Try.ntmps49
  go_wp2_with fail
  refine (c_is k _ _ hk).mono ?_
  rintro e W1 ⟨rfl, rfl⟩
  go_wp2_with fail
  refine (need_true 111 _).mono ?_
  rintro e W1 ⟨rfl, rfl⟩
  go_wp2_with fail
  refine (c_need_true _ 2 _ (by simp; omega)).mono ?_
  rintro e W1 ⟨rfl, rfl⟩
  go_wp2_with fail
  refine (c_need_true _ 110 _ (by simp)).mono ?_
  rintro e W1 ⟨rfl, rfl⟩
  go_wp2_with (refine wl_slice_lh m (m + k) rfl rfl rfl (congrArg (Value.int IntKind.i64) (by omega : (m : Int) + (k : Int) = ((m + k : Nat) : Int))) HB.out (by omega) g3 ?_; rw [Nat.add_sub_cancel_left]; intro sa sc hsl)
  refine (num_any _ _ _ hsl (by simp; omega)).mono ?_
  rintro e W1 ⟨rfl, hB1⟩
  go_wp2
  go_ret
  exact ⟨rfl, hB1⟩

set_option maxRecDepth 100000 in
theorem get1_no (p0 p1 p2 : Nat) (x m : Int) (bv : Value) (l : List UInt8) (W : World) (h0 : Blk W p0 #[.int .i64 x] 3) (h1 : Blk W p1 #[.int .i64 m] 3) (h2 : Blk W p2 #[bv] 22) (hb : Bytes W bv l)
    (hno : getNo m x l.length ≠ 0) :
    Calls Try.prog 49 #[.pointer (some ⟨p0, 0, none⟩), .pointer (some ⟨p1, 0, none⟩), .pointer (some ⟨p2, 0, none⟩)] W fun e w' => e = .panicked (errP (getNo m x l.length)) ∧ W = w' := by
  obtain ⟨ba, bc, rfl, hc, hm, _⟩ := id hb
  unfold maxLen at hm
  have e0 : W.cell? ⟨p0, 0, none⟩ = some (.int .i64 x) := h0.cell 0
  have e1 : W.cell? ⟨p1, 0, none⟩ = some (.int .i64 m) := h1.cell 0
  have e2 : W.cell? ⟨p2, 0, none⟩ = some (.slice ba l.length bc) := h2.cell 0
  clear hb h0 h1 h2
  obtain ⟨N, hN⟩ : ∃ N, getNo m x l.length = N := ⟨_, rfl⟩
  rw [hN] at hno ⊢
  unfold getNo at hN
  cases hx : okW x with
  | false =>
    rw [hx] at hN
    obtain rfl : 111 = N := by simpa using hN
    clear hN hno
    go_enter Try.func49, Try.ntmps49
    go_wp2_with fail
    refine (c_is x _ _ hx).mono ?_
    rintro e W1 ⟨rfl, rfl⟩
    go_wp2_with fail
    refine (need_false 111 _).mono ?_
    rintro e W1 ⟨rfl, rfl⟩
    go_wp2
    exact ⟨rfl, rfl, rfl⟩
  | true =>
    rw [hx, if_pos rfl] at hN
    by_cases ha : 0 ≤ m ∧ m ≤ l.length
    · rw [if_pos ha] at hN
      by_cases hs : x ≤ l.length - m
      · rw [if_pos hs] at hN; exact absurd hN.symm hno
      · rw [if_neg hs] at hN
        subst hN
        obtain ⟨a1, a2⟩ := ha
        have q1 : decide (x ≤ (l.length : Int) - m) = false := by simp; omega
        obtain ⟨k, rfl, g1, g2⟩ := okW_nat hx
        clear hno
        go_enter Try.func49, Try.ntmps49
        go_wp2_with fail
        refine (c_is k _ _ hx).mono ?_
        rintro e W1 ⟨rfl, rfl⟩
        go_wp2_with fail
        refine (need_true 111 _).mono ?_
        rintro e W1 ⟨rfl, rfl⟩
        go_wp2_with fail
        refine (c_need_true _ 2 _ (by simp <;> omega)).mono ?_
        rintro e W1 ⟨rfl, rfl⟩
        go_wp2_with fail
        refine (c_need_false _ 110 _ (by simp <;> omega)).mono ?_
        rintro e W1 ⟨rfl, rfl⟩
        go_wp2
        exact ⟨rfl, rfl, rfl⟩
    · rw [if_neg ha] at hN
      subst hN
      clear hno
      by_cases a1 : 0 ≤ m
      · have q1 : decide (m ≤ (l.length : Int)) = false := by simp; omega
        go_enter Try.func49, Try.ntmps49
        go_wp2_with fail
        refine (c_is x _ _ hx).mono ?_
        rintro e W1 ⟨rfl, rfl⟩
        go_wp2_with fail
        refine (need_true 111 _).mono ?_
        rintro e W1 ⟨rfl, rfl⟩
        go_wp2_with fail
        refine (c_need_false _ 2 _ (by simp <;> omega)).mono ?_
        rintro e W1 ⟨rfl, rfl⟩
        go_wp2
        exact ⟨rfl, rfl, rfl⟩
      · have q1 : decide (0 ≤ m) = false := by simp; omega
        go_enter Try.func49, Try.ntmps49
        go_wp2_with fail
        refine (c_is x _ _ hx).mono ?_
        rintro e W1 ⟨rfl, rfl⟩
        go_wp2_with fail
        refine (need_true 111 _).mono ?_
        rintro e W1 ⟨rfl, rfl⟩
        go_wp2_with fail
        refine (c_need_false _ 2 _ (by simp <;> omega)).mono ?_
        rintro e W1 ⟨rfl, rfl⟩
        go_wp2
        exact ⟨rfl, rfl, rfl⟩

set_option maxRecDepth 100000 in
set_option maxHeartbeats 1000000 in
theorem get_yes (k m : Nat) (bv : Value) (l : List UInt8) (w : World) (hb : Bytes w bv l) (hl : l.length ≤ 100000) (g1 : 1 ≤ k) (g2 : k ≤ 8) (g3 : m + k ≤ l.length) :
    Calls Try.prog 16 #[bv, .int .i64 m, .int .i64 k] w fun e w' => e = .returned (.tuple #[.int .u64 (numB ((l.drop m).take k)), .int .i64 0]) ∧ Below w.heap.size w w' := by
  obtain ⟨ba, bc, rfl, _⟩ := id hb
  have HB := Lib.hid hb
  clear hb
  go_enter Try.func16, Try.ntmps16
  have b0 := ((((Blk.new w #[.slice ba l.length bc] 22).alloc (.cells #[.int .i64 (m)] 3)).alloc (.cells #[.int .i64 (k)] 3)).alloc (.cells #[.int .u64 0] 26)).alloc (.cells #[.int .i64 0] 29)
  have b1 := (((Blk.new (w.alloc (.cells #[.slice ba l.length bc] 22)) #[.int .i64 (m)] 3).alloc (.cells #[.int .i64 (k)] 3)).alloc (.cells #[.int .u64 0] 26)).alloc (.cells #[.int .i64 0] 29)
  have b2 := ((Blk.new ((w.alloc (.cells #[.slice ba l.length bc] 22)).alloc (.cells #[.int .i64 (m)] 3)) #[.int .i64 (k)] 3).alloc (.cells #[.int .u64 0] 26)).alloc (.cells #[.int .i64 0] 29)
  go_wp2_with fail
  refine tries_uint64 49 _ (fun w => by kernel_rfl) _ _ ?_
  simp only [World.size_alloc] at b0 b1 b2 ⊢
  have c0 := (Blk.new (((w.alloc (.cells #[.slice ba l.length bc] 22)).alloc (.cells #[.int .i64 (m)] 3)).alloc (.cells #[.int .i64 (k)] 3)) #[.int .u64 0] 26).alloc (.cells #[.int .i64 0] 29)
  have c1 := Blk.new ((((w.alloc (.cells #[.slice ba l.length bc] 22)).alloc (.cells #[.int .i64 (m)] 3)).alloc (.cells #[.int .i64 (k)] 3)).alloc (.cells #[.int .u64 0] 26)) #[.int .i64 0] 29
  simp only [World.size_alloc] at c0 c1
  have hBW := Below.upA (Below.upA (Below.upA (Below.upA (Below.new w (.cells #[.slice ba l.length bc] 22)) (.cells #[.int .i64 (m)] 3)) (.cells #[.int .i64 (k)] 3)) (.cells #[.int .u64 0] 26)) (.cells #[.int .i64 0] 29)
  refine (get1_yes _ _ _ k m _ l _ b2 b1 b0 (HB.out.below hBW) hl g1 g2 g3).mono ?_
  rintro e W1 ⟨rfl, hB1⟩
  refine ⟨Blk.up c0 hB1, Blk.up c1 hB1, .inl ⟨_, rfl, ?_⟩⟩
  have hB2 := Below.setCell (Below.setCell (Below.up hBW hB1) (p := ⟨w.heap.size + 1 + 1 + 1, 0, none⟩) (by simp; omega) (.int .u64 (numB ((l.drop m).take k)))) (p := ⟨w.heap.size + 1 + 1 + 1 + 1, 0, none⟩) (by simp; omega) (.int .i64 0)
  go_wp2
  refine bodyPost_ret (results_tmp2 rfl _ _ _) rfl ?_
  exact ⟨rfl, hB2⟩

set_option maxRecDepth 100000 in
set_option maxHeartbeats 1000000 in
theorem get_no (x m : Int) (bv : Value) (l : List UInt8) (w : World) (hb : Bytes w bv l) (hno : getNo m x l.length ≠ 0) :
    Calls Try.prog 16 #[bv, .int .i64 m, .int .i64 x] w fun e w' => e = .returned (.tuple #[.int .u64 0, .int .i64 (getNo m x l.length)]) ∧ Below w.heap.size w w' := by
  have HNO := Lib.hid hno
  clear hno
  obtain ⟨ba, bc, rfl, _⟩ := id hb
  have HB := Lib.hid hb
  clear hb
  go_enter Try.func16, Try.ntmps16
  have b0 := ((((Blk.new w #[.slice ba l.length bc] 22).alloc (.cells #[.int .i64 (m)] 3)).alloc (.cells #[.int .i64 (x)] 3)).alloc (.cells #[.int .u64 0] 26)).alloc (.cells #[.int .i64 0] 29)
  have b1 := (((Blk.new (w.alloc (.cells #[.slice ba l.length bc] 22)) #[.int .i64 (m)] 3).alloc (.cells #[.int .i64 (x)] 3)).alloc (.cells #[.int .u64 0] 26)).alloc (.cells #[.int .i64 0] 29)
  have b2 := ((Blk.new ((w.alloc (.cells #[.slice ba l.length bc] 22)).alloc (.cells #[.int .i64 (m)] 3)) #[.int .i64 (x)] 3).alloc (.cells #[.int .u64 0] 26)).alloc (.cells #[.int .i64 0] 29)
  go_wp2_with fail
  refine tries_uint64 49 _ (fun w => by kernel_rfl) _ _ ?_
  simp only [World.size_alloc] at b0 b1 b2 ⊢
  have c0 := (Blk.new (((w.alloc (.cells #[.slice ba l.length bc] 22)).alloc (.cells #[.int .i64 (m)] 3)).alloc (.cells #[.int .i64 (x)] 3)) #[.int .u64 0] 26).alloc (.cells #[.int .i64 0] 29)
  have c1 := Blk.new ((((w.alloc (.cells #[.slice ba l.length bc] 22)).alloc (.cells #[.int .i64 (m)] 3)).alloc (.cells #[.int .i64 (x)] 3)).alloc (.cells #[.int .u64 0] 26)) #[.int .i64 0] 29
  simp only [World.size_alloc] at c0 c1
  have hBW := Below.upA (Below.upA (Below.upA (Below.upA (Below.new w (.cells #[.slice ba l.length bc] 22)) (.cells #[.int .i64 (m)] 3)) (.cells #[.int .i64 (x)] 3)) (.cells #[.int .u64 0] 26)) (.cells #[.int .i64 0] 29)
  refine (get1_no _ _ _ x m _ l _ b2 b1 b0 (HB.out.below hBW) HNO.out).mono ?_
  rintro e W1 ⟨rfl, rfl⟩
  refine ⟨c0, c1, .inr ⟨_, rfl, fun w2 hb2 => ?_⟩⟩
  have hB2 := Below.setCell (Below.setCell (Below.up hBW hb2) (p := ⟨w.heap.size + 1 + 1 + 1, 0, none⟩) (by simp; omega) (.int .u64 0)) (p := ⟨w.heap.size + 1 + 1 + 1 + 1, 0, none⟩) (by simp; omega) (.int .i64 (getNo m x l.length))
  go_wp2
  refine bodyPost_ret (results_tmp2 rfl _ _ _) rfl ?_
  exact ⟨rfl, hB2⟩

end Go.Proofs.Ytpooakhmpfbmgaa
