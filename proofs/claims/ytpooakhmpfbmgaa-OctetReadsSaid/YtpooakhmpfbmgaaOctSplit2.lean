/- octet.Split, whole. -/
import Derived.Test.YtpooakhmpfbmgaaOctSplit
import Derived.Test.YtpooakhmpfbmgaaOctLay
namespace Go.Proofs.Ytpooakhmpfbmgaa
open Go.RowKit

/-- why bytes cannot be split; 0: they can -/
def splitNo (xs : List Int) (n : Nat) : Int := if allW xs then (if n < sumW xs then 110 else if sumW xs < n then 113 else 0) else 111
theorem splitNo_zero {xs : List Int} {n : Nat} (h : splitNo xs n = 0) : allW xs = true ∧ n = sumW xs := by
  unfold splitNo at h
  split at h
  · split at h
    · cases h
    · split at h
      · cases h
      · exact ⟨by assumption, by omega⟩
  · cases h

set_option maxRecDepth 100000 in
set_option maxHeartbeats 1000000 in
theorem split1_no (p0 p1 : Nat) (v1 v2 : Value) (xs : List Int) (bs : List UInt8) (w : World) (h0 : Blk w p0 #[v1] 50) (h1 : Blk w p1 #[v2] 22) (hx : IntsS w v1 xs) (hb : Bytes w v2 bs) (hl : xs.length ≤ 1000) (hno : splitNo xs bs.length ≠ 0) :
    Calls Try.prog 61 #[.pointer (some ⟨p0, 0, none⟩), .pointer (some ⟨p1, 0, none⟩)] w fun e w' => e = .panicked (errP (splitNo xs bs.length)) ∧ w = w' := by
  obtain ⟨a1, c1, rfl, hc1, hm1⟩ := hx.shape
  obtain ⟨a2, c2, rfl, hc2, hm2⟩ := IsSl.shape hb
  have e0 : w.cell? ⟨p0, 0, none⟩ = some (.slice a1 xs.length c1) := h0.cell 0
  have e1 : w.cell? ⟨p1, 0, none⟩ = some (.slice a2 bs.length c2) := h1.cell 0
  obtain ⟨N, hN⟩ : ∃ N, splitNo xs bs.length = N := ⟨_, rfl⟩
  rw [hN] at hno ⊢
  unfold splitNo at hN
  cases hall : allW xs with
  | false =>
    rw [hall, if_neg (by simp)] at hN
    subst hN
    have hsz := size_no _ xs w hx hl hall
    clear hall
    go_enter Try.func61, Try.ntmps61
    go_wp2_with fail
    refine wp_scope_straight ?_
    go_wp2_with fail
    refine hsz.mono ?_
    rintro e W1 ⟨rfl, rfl⟩
    go_wp2
    exact ⟨rfl, rfl, rfl⟩
  | true =>
    rw [hall, if_pos rfl] at hN
    have hsz := size_yes _ xs w hx hl hall
    obtain ⟨sm, hsm⟩ : ∃ sm, sumW xs = sm := ⟨_, rfl⟩
    rw [hsm] at hsz hN
    clear hall hsm
    by_cases hlt : bs.length < sm
    · rw [if_pos hlt] at hN
      subst hN
      have q1 : decide ((sm : Int) ≤ (bs.length : Int)) = false := by simp; omega
      go_enter Try.func61, Try.ntmps61
      go_wp2_with fail
      refine wp_scope_straight ?_
      go_wp2_with fail
      refine hsz.mono ?_
      rintro e W1 ⟨rfl, rfl⟩
      go_wp2_with fail
      refine (c_need_false _ 110 _ (by simpa using hlt)).mono ?_
      rintro e W1 ⟨rfl, rfl⟩
      go_wp2
      exact ⟨rfl, rfl, rfl⟩
    · rw [if_neg hlt] at hN
      by_cases hgt : sm < bs.length
      · rw [if_pos hgt] at hN
        subst hN
        have q1 : decide ((sm : Int) ≤ (bs.length : Int)) = true := by simp; omega
        have q2 : ((bs.length : Int) == (sm : Int)) = false := by rw [beq_eq_false_iff_ne]; omega
        go_enter Try.func61, Try.ntmps61
        go_wp2_with fail
        refine wp_scope_straight ?_
        go_wp2_with fail
        refine hsz.mono ?_
        rintro e W1 ⟨rfl, rfl⟩
        go_wp2_with fail
        refine (c_need_true _ 110 _ (by simp; omega)).mono ?_
        rintro e W1 ⟨rfl, rfl⟩
        go_wp2_with fail
        refine (c_need_false _ 113 _ (by simp)).mono ?_
        rintro e W1 ⟨rfl, rfl⟩
        go_wp2
        exact ⟨rfl, rfl, rfl⟩
      · rw [if_neg hgt] at hN
        exact absurd hN.symm hno

theorem OwnU.setO {base : Nat} {w : World} {v : Value} {l : List Nat} (h : OwnU base w v l) (b i : Nat) (x : Value) (hb : b < base) : OwnU base (w.setCell ⟨b, i, none⟩ x) v l :=
  World.ownsRow.kept h (gb_set (gb_refl w (some b)) i x) (.inr (fun e => own_ne h (b := b) hb e.symm))

set_option maxRecDepth 100000 in
set_option maxHeartbeats 1000000 in
theorem split_yes (v1 v2 : Value) (xs : List Int) (bs : List UInt8) (w : World) (hx : IntsS w v1 xs) (hb : Bytes w v2 bs) (hl : xs.length ≤ 1000) (hall : allW xs = true) (hsum : bs.length = sumW xs) :
    Calls Try.prog 31 #[v1, v2] w fun e w' => ∃ a m c, e = .returned (.tuple #[.slice a m c, .int .i64 0]) ∧ OwnU w.heap.size w' (.slice a m c) (splitR xs bs) ∧ Below w.heap.size w w' := by
  obtain ⟨a1, c1, rfl, hc1, hm1⟩ := hx.shape
  obtain ⟨a2, c2, rfl, hc2, hm2⟩ := IsSl.shape hb
  have b0 := (((Blk.new w #[.slice a1 xs.length c1] 50).alloc (.cells #[.slice a2 bs.length c2] 22)).alloc (.cells #[.slice none 0 0] 51)).alloc (.cells #[.int .i64 0] 29)
  have b1 := ((Blk.new (w.alloc (.cells #[.slice a1 xs.length c1] 50)) #[.slice a2 bs.length c2] 22).alloc (.cells #[.slice none 0 0] 51)).alloc (.cells #[.int .i64 0] 29)
  have c0 := (Blk.new ((w.alloc (.cells #[.slice a1 xs.length c1] 50)).alloc (.cells #[.slice a2 bs.length c2] 22)) #[.slice none 0 0] 51).alloc (.cells #[.int .i64 0] 29)
  have c1' := Blk.new (((w.alloc (.cells #[.slice a1 xs.length c1] 50)).alloc (.cells #[.slice a2 bs.length c2] 22)).alloc (.cells #[.slice none 0 0] 51)) #[.int .i64 0] 29
  simp only [World.size_alloc] at b1 c0 c1'
  have hBW := Below.upA (Below.upA (Below.upA (Below.new w (.cells #[.slice a1 xs.length c1] 50)) (.cells #[.slice a2 bs.length c2] 22)) (.cells #[.slice none 0 0] 51)) (.cells #[.int .i64 0] 29)
  have H1 := split1_yes _ _ _ _ xs bs _ b0 b1 (hx.below hBW) (hb.below hBW) hl hall hsum
  clear hall hsum b0 b1
  go_enter Try.func31, Try.ntmps31
  go_wp2_with fail
  refine tries_S_uint64 61 _ (fun w => by kernel_rfl) _ _ ?_
  simp only [World.size_alloc]
  refine H1.mono ?_
  rintro e W1 ⟨va, vn, vc, rfl, ho, hB1⟩
  refine ⟨c0.up hB1, c1'.up hB1, .inl ⟨_, _, _, rfl, ?_⟩⟩
  simp only [World.size_alloc] at ho
  have ho2 := (ho.setO (w.heap.size + 1 + 1) 0 (.slice va vn vc) (by omega)).setO (w.heap.size + 1 + 1 + 1) 0 (.int .i64 0) (by omega)
  have hB2 := Below.setCell (Below.setCell (Below.up hBW hB1) (p := ⟨w.heap.size + 1 + 1, 0, none⟩) (by simp; omega) (.slice va vn vc)) (p := ⟨w.heap.size + 1 + 1 + 1, 0, none⟩) (by simp; omega) (.int .i64 0)
  clear ho
  go_wp2
  refine bodyPost_ret (results_tmp2 rfl _ _ _) rfl ?_
  exact ⟨_, _, _, rfl, ownsRow_base ho2 (by omega), hB2⟩

set_option maxRecDepth 100000 in
set_option maxHeartbeats 1000000 in
theorem split_no (v1 v2 : Value) (xs : List Int) (bs : List UInt8) (w : World) (hx : IntsS w v1 xs) (hb : Bytes w v2 bs) (hl : xs.length ≤ 1000) (hno : splitNo xs bs.length ≠ 0) :
    Calls Try.prog 31 #[v1, v2] w fun e w' => e = .returned (.tuple #[.slice none 0 0, .int .i64 (splitNo xs bs.length)]) ∧ Below w.heap.size w w' := by
  obtain ⟨a1, c1, rfl, hc1, hm1⟩ := hx.shape
  obtain ⟨a2, c2, rfl, hc2, hm2⟩ := IsSl.shape hb
  have b0 := (((Blk.new w #[.slice a1 xs.length c1] 50).alloc (.cells #[.slice a2 bs.length c2] 22)).alloc (.cells #[.slice none 0 0] 51)).alloc (.cells #[.int .i64 0] 29)
  have b1 := ((Blk.new (w.alloc (.cells #[.slice a1 xs.length c1] 50)) #[.slice a2 bs.length c2] 22).alloc (.cells #[.slice none 0 0] 51)).alloc (.cells #[.int .i64 0] 29)
  have c0 := (Blk.new ((w.alloc (.cells #[.slice a1 xs.length c1] 50)).alloc (.cells #[.slice a2 bs.length c2] 22)) #[.slice none 0 0] 51).alloc (.cells #[.int .i64 0] 29)
  have c1' := Blk.new (((w.alloc (.cells #[.slice a1 xs.length c1] 50)).alloc (.cells #[.slice a2 bs.length c2] 22)).alloc (.cells #[.slice none 0 0] 51)) #[.int .i64 0] 29
  simp only [World.size_alloc] at b1 c0 c1'
  have hBW := Below.upA (Below.upA (Below.upA (Below.new w (.cells #[.slice a1 xs.length c1] 50)) (.cells #[.slice a2 bs.length c2] 22)) (.cells #[.slice none 0 0] 51)) (.cells #[.int .i64 0] 29)
  have H1 := split1_no _ _ _ _ xs bs _ b0 b1 (hx.below hBW) (hb.below hBW) hl hno
  clear hno b0 b1
  go_enter Try.func31, Try.ntmps31
  go_wp2_with fail
  refine tries_S_uint64 61 _ (fun w => by kernel_rfl) _ _ ?_
  simp only [World.size_alloc]
  refine H1.mono ?_
  rintro e W1 ⟨rfl, rfl⟩
  refine ⟨c0, c1', .inr ⟨_, rfl, fun w2 hb2 => ?_⟩⟩
  have hB2 := Below.setCell (Below.setCell (Below.up hBW hb2) (p := ⟨w.heap.size + 1 + 1, 0, none⟩) (by simp; omega) (.slice none 0 0)) (p := ⟨w.heap.size + 1 + 1 + 1, 0, none⟩) (by simp; omega) (.int .i64 (splitNo xs bs.length))
  go_wp2
  refine bodyPost_ret (results_tmp2 rfl _ _ _) rfl ?_
  exact ⟨rfl, hB2⟩

end Go.Proofs.Ytpooakhmpfbmgaa
