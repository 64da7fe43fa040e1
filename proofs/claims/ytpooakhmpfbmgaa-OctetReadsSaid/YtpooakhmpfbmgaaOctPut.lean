/- octet.Put. -/
import Derived.Test.YtpooakhmpfbmgaaOctTries
import Derived.Test.YtpooakhmpfbmgaaCanon
namespace Go.Proofs.Ytpooakhmpfbmgaa
open Go.RowKit

theorem OwnB.setO {base : Nat} {w : World} {v : Value} {l : List UInt8} (h : OwnB base w v l) (b i : Nat) (x : Value) (hb : b < base) : OwnB base (w.setCell ⟨b, i, none⟩ x) v l :=
  World.ownsRow.kept h (gb_set (gb_refl w (some b)) i x) (.inr (fun e => own_ne h (b := b) hb e.symm))

/-- why a number cannot be laid; 0: it can -/
def layNo (x : Int) (n : Nat) : Int := if okW x then (if fitsB x.toNat n then 0 else 112) else 111

set_option maxRecDepth 100000 in
theorem put1_yes (p0 p1 p2 k n : Nat) (bv : Value) (l N : List UInt8) (hN : l ++ layB k n = N) (W : World) (h0 : Blk W p0 #[bv] 22) (h1 : Blk W p1 #[.int .i64 k] 3) (h2 : Blk W p2 #[.int .u64 n] 26) (hb : Bytes W bv l) (hl : l.length ≤ 100000)
    (g1 : 1 ≤ k) (g2 : k ≤ 8) (g3 : fitsB k n = true) :
    Calls Try.prog 45 #[.pointer (some ⟨p0, 0, none⟩), .pointer (some ⟨p1, 0, none⟩), .pointer (some ⟨p2, 0, none⟩)] W fun e w' => ∃ a m c, e = .returned (.slice a m c) ∧ OwnB W.heap.size w' (.slice a m c) N ∧ Below W.heap.size W w' := by
  obtain ⟨ba, bc, rfl, _⟩ := id hb
  have e0 : W.cell? ⟨p0, 0, none⟩ = some (.slice ba l.length bc) := h0.cell 0
  have e1 : W.cell? ⟨p1, 0, none⟩ = some (.int .i64 k) := h1.cell 0
  have e2 : W.cell? ⟨p2, 0, none⟩ = some (.int .u64 n) := h2.cell 0
  have HB := Lib.hid hb
  clear hb
  go_enter Try.func45, Try.ntmps45
  go_upto_region 1 with fail
  refine wp_region_cuts [.q [_, _, _], .e _] [_, _] rfl (fun w'' => Below W.heap.size W w'') (by kernel_rfl) (by kernel_rfl) (fun _ _ d _ _ h => by cases d <;> exact h) ?_
  refine cut_q (Below.refl _ W).drew ?_
  repeat (first | go_big_quiet_step ((intros; rfl)) | quiet_step ((intros; rfl)) | fail | (refine wq_loadB rfl rfl (by kernel_rfl) (by assumption) ?_; simp only [Act.put, List.setIfInBounds_toArray, List.set_cons_succ, List.set_cons_zero]))
  refine wpQuiet_nil ?_
  refine cut_e ?_
  go_wp2_with fail
  refine (laid_yes k n _ g1 g2 g3).mono ?_
  rintro e W1 ⟨v1, rfl, hv1, hB1⟩
  have u1 := Below.up (Below.refl _ W).drew hB1
  go_wp2
  refine ⟨u1, ?_⟩
  refine cut_end ?_
  have H1 := HB.out.below u1
  go_wp2_with fail
  have hbe := behind_any _ v1 l (layB k n) _ H1 hv1 (by rw [layB_len]; omega)
  rw [hN] at hbe
  have HN := Lib.hid hN
  clear hN
  refine hbe.mono ?_
  clear hbe
  rintro e W2 ⟨v2, rfl, ho2, hB2⟩
  obtain ⟨a2, c2, rfl, _⟩ := ownsRow_slice ho2
  go_wp2
  go_ret
  exact ⟨_, _, _, rfl, ownsRow_base ho2 u1.size, Below.up u1 hB2⟩

set_option maxRecDepth 100000 in
theorem put1_no (p0 p1 p2 n : Nat) (x : Int) (bv : Value) (W : World) (l : List UInt8) (h0 : Blk W p0 #[bv] 22) (h1 : Blk W p1 #[.int .i64 x] 3) (h2 : Blk W p2 #[.int .u64 n] 26) (hb : Bytes W bv l)
    (hn : n < 18446744073709551616) (hno : layNo x n ≠ 0) :
    Calls Try.prog 45 #[.pointer (some ⟨p0, 0, none⟩), .pointer (some ⟨p1, 0, none⟩), .pointer (some ⟨p2, 0, none⟩)] W fun e w' => e = .panicked (errP (layNo x n)) ∧ Below W.heap.size W w' := by
  obtain ⟨ba, bc, rfl, _⟩ := hb
  have e0 : W.cell? ⟨p0, 0, none⟩ = some (.slice ba l.length bc) := h0.cell 0
  have e1 : W.cell? ⟨p1, 0, none⟩ = some (.int .i64 x) := h1.cell 0
  have e2 : W.cell? ⟨p2, 0, none⟩ = some (.int .u64 n) := h2.cell 0
  have hlaid : ∀ w, Calls Try.prog 47 #[.int .i64 x, .int .u64 n] w fun e w' => e = .panicked (errP (layNo x n)) ∧ Below w.heap.size w w' := fun w => by
    unfold layNo at hno ⊢
    cases hx : okW x with
    | false => simpa using laid_no x n w hx
    | true =>
      obtain ⟨k, rfl, g1, g2⟩ := okW_nat hx
      rw [hx] at hno
      cases hf : fitsB k n with
      | true => simp [hf] at hno
      | false => simpa [hf] using laid_big k n w g1 g2 hn hf
  clear hno
  go_enter Try.func45, Try.ntmps45
  go_upto_region 1 with fail
  refine wp_region_cuts [.q [_, _, _], .e _] [_, _] rfl (fun w'' => Below W.heap.size W w'') (by kernel_rfl) (by kernel_rfl) (fun _ _ d _ _ h => by cases d <;> exact h) ?_
  refine cut_q (Below.refl _ W).drew ?_
  repeat (first | go_big_quiet_step ((intros; rfl)) | quiet_step ((intros; rfl)) | fail | (refine wq_loadB rfl rfl (by kernel_rfl) (by assumption) ?_; simp only [Act.put, List.setIfInBounds_toArray, List.set_cons_succ, List.set_cons_zero]))
  refine wpQuiet_nil ?_
  refine cut_e ?_
  go_wp2_with fail
  refine (hlaid _).mono ?_
  rintro e W1 ⟨rfl, hB1⟩
  go_wp2
  exact ⟨rfl, rfl, Below.up (Below.refl _ W).drew hB1⟩

set_option maxRecDepth 100000 in
set_option maxHeartbeats 1000000 in
theorem put_yes (k n : Nat) (bv : Value) (l : List UInt8) (w : World) (hb : Bytes w bv l) (hl : l.length ≤ 100000) (g1 : 1 ≤ k) (g2 : k ≤ 8) (g3 : fitsB k n = true) :
    Calls Try.prog 11 #[bv, .int .i64 k, .int .u64 n] w fun e w' => ∃ a m c, e = .returned (.tuple #[.slice a m c, .int .i64 0]) ∧ OwnB w.heap.size w' (.slice a m c) (l ++ layB k n) ∧ Below w.heap.size w w' := by
  obtain ⟨ba, bc, rfl, _⟩ := id hb
  have HB := Lib.hid hb
  clear hb
  go_enter Try.func11, Try.ntmps11
  have b0 := ((((Blk.new w #[.slice ba l.length bc] 22).alloc (.cells #[.int .i64 k] 3)).alloc (.cells #[.int .u64 n] 26)).alloc (.cells #[.slice none 0 0] 22)).alloc (.cells #[.int .i64 0] 29)
  have b1 := (((Blk.new (w.alloc (.cells #[.slice ba l.length bc] 22)) #[.int .i64 k] 3).alloc (.cells #[.int .u64 n] 26)).alloc (.cells #[.slice none 0 0] 22)).alloc (.cells #[.int .i64 0] 29)
  have b2 := ((Blk.new ((w.alloc (.cells #[.slice ba l.length bc] 22)).alloc (.cells #[.int .i64 k] 3)) #[.int .u64 n] 26).alloc (.cells #[.slice none 0 0] 22)).alloc (.cells #[.int .i64 0] 29)
  go_wp2_with fail
  refine tries_S_byte 45 _ (fun w => by kernel_rfl) _ _ ?_
  simp only [World.size_alloc] at b0 b1 b2 ⊢
  have c0 := (Blk.new (((w.alloc (.cells #[.slice ba l.length bc] 22)).alloc (.cells #[.int .i64 k] 3)).alloc (.cells #[.int .u64 n] 26)) #[.slice none 0 0] 22).alloc (.cells #[.int .i64 0] 29)
  have c1 := Blk.new ((((w.alloc (.cells #[.slice ba l.length bc] 22)).alloc (.cells #[.int .i64 k] 3)).alloc (.cells #[.int .u64 n] 26)).alloc (.cells #[.slice none 0 0] 22)) #[.int .i64 0] 29
  simp only [World.size_alloc] at c0 c1
  have hBW := Below.upA (Below.upA (Below.upA (Below.upA (Below.new w (.cells #[.slice ba l.length bc] 22)) (.cells #[.int .i64 k] 3)) (.cells #[.int .u64 n] 26)) (.cells #[.slice none 0 0] 22)) (.cells #[.int .i64 0] 29)
  refine (put1_yes _ _ _ k n _ l _ rfl _ b0 b1 b2 (HB.out.below hBW) hl g1 g2 g3).mono ?_
  rintro e W1 ⟨a1, m1, c1', rfl, ho1, hB1⟩
  refine ⟨Blk.up c0 hB1, Blk.up c1 hB1, .inl ⟨a1, m1, c1', rfl, ?_⟩⟩
  simp only [World.size_alloc] at ho1
  have ho2 := (ho1.setO (w.heap.size + 1 + 1 + 1) 0 (.slice a1 m1 c1') (by omega)).setO (w.heap.size + 1 + 1 + 1 + 1) 0 (.int .i64 0) (by omega)
  have hB2 := Below.setCell (Below.setCell (Below.up hBW hB1) (p := ⟨w.heap.size + 1 + 1 + 1, 0, none⟩) (by simp; omega) (.slice a1 m1 c1')) (p := ⟨w.heap.size + 1 + 1 + 1 + 1, 0, none⟩) (by simp; omega) (.int .i64 0)
  go_wp2
  refine bodyPost_ret (results_tmp2 rfl _ _ _) rfl ?_
  exact ⟨_, _, _, rfl, ownsRow_base ho2 (by omega), hB2⟩

set_option maxRecDepth 100000 in
set_option maxHeartbeats 1000000 in
theorem put_no (x : Int) (n : Nat) (bv : Value) (l : List UInt8) (w : World) (hb : Bytes w bv l) (hn : n < 18446744073709551616) (hno : layNo x n ≠ 0) :
    Calls Try.prog 11 #[bv, .int .i64 x, .int .u64 n] w fun e w' => e = .returned (.tuple #[.slice none 0 0, .int .i64 (layNo x n)]) ∧ Below w.heap.size w w' := by
  obtain ⟨ba, bc, rfl, _⟩ := id hb
  have HB := Lib.hid hb
  have HNO := Lib.hid hno
  clear hb hno
  go_enter Try.func11, Try.ntmps11
  have b0 := ((((Blk.new w #[.slice ba l.length bc] 22).alloc (.cells #[.int .i64 x] 3)).alloc (.cells #[.int .u64 n] 26)).alloc (.cells #[.slice none 0 0] 22)).alloc (.cells #[.int .i64 0] 29)
  have b1 := (((Blk.new (w.alloc (.cells #[.slice ba l.length bc] 22)) #[.int .i64 x] 3).alloc (.cells #[.int .u64 n] 26)).alloc (.cells #[.slice none 0 0] 22)).alloc (.cells #[.int .i64 0] 29)
  have b2 := ((Blk.new ((w.alloc (.cells #[.slice ba l.length bc] 22)).alloc (.cells #[.int .i64 x] 3)) #[.int .u64 n] 26).alloc (.cells #[.slice none 0 0] 22)).alloc (.cells #[.int .i64 0] 29)
  go_wp2_with fail
  refine tries_S_byte 45 _ (fun w => by kernel_rfl) _ _ ?_
  simp only [World.size_alloc] at b0 b1 b2 ⊢
  have c0 := (Blk.new (((w.alloc (.cells #[.slice ba l.length bc] 22)).alloc (.cells #[.int .i64 x] 3)).alloc (.cells #[.int .u64 n] 26)) #[.slice none 0 0] 22).alloc (.cells #[.int .i64 0] 29)
  have c1 := Blk.new ((((w.alloc (.cells #[.slice ba l.length bc] 22)).alloc (.cells #[.int .i64 x] 3)).alloc (.cells #[.int .u64 n] 26)).alloc (.cells #[.slice none 0 0] 22)) #[.int .i64 0] 29
  simp only [World.size_alloc] at c0 c1
  have hBW := Below.upA (Below.upA (Below.upA (Below.upA (Below.new w (.cells #[.slice ba l.length bc] 22)) (.cells #[.int .i64 x] 3)) (.cells #[.int .u64 n] 26)) (.cells #[.slice none 0 0] 22)) (.cells #[.int .i64 0] 29)
  refine (put1_no _ _ _ n x _ _ l b0 b1 b2 (HB.out.below hBW) hn HNO.out).mono ?_
  rintro e W1 ⟨rfl, hB1⟩
  refine ⟨Blk.up c0 hB1, Blk.up c1 hB1, .inr ⟨_, rfl, fun w2 hb2 => ?_⟩⟩
  have hB2 := Below.setCell (Below.setCell (Below.up (Below.up hBW hB1) hb2) (p := ⟨w.heap.size + 1 + 1 + 1, 0, none⟩) (by simp; omega) (.slice none 0 0)) (p := ⟨w.heap.size + 1 + 1 + 1 + 1, 0, none⟩) (by simp; omega) (.int .i64 (layNo x n))
  go_wp2
  refine bodyPost_ret (results_tmp2 rfl _ _ _) rfl ?_
  exact ⟨rfl, hB2⟩

end Go.Proofs.Ytpooakhmpfbmgaa
