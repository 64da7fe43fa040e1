/- octet.Lay with an error; octet.Lay. -/
import Derived.Test.YtpooakhmpfbmgaaOctLay
namespace Go.Proofs.Ytpooakhmpfbmgaa
open Go.RowKit

set_option maxRecDepth 100000 in
set_option maxHeartbeats 1000000 in
theorem lay1_no (p0 p1 : Nat) (v1 v2 : Value) (xs : List Int) (ns : List Nat) (W : World) (h0 : Blk W p0 #[v1] 50) (h1 : Blk W p1 #[v2] 51) (hx : IntsS W v1 xs) (hn : U64S W v2 ns) (hl : xs.length ≤ 1000) (h64 : ∀ n ∈ ns, n < 18446744073709551616) (hno : layRNo xs ns ≠ 0) :
    Calls Try.prog 59 #[.pointer (some ⟨p0, 0, none⟩), .pointer (some ⟨p1, 0, none⟩)] W fun e w' => e = .panicked (errP (layRNo xs ns)) ∧ Below W.heap.size W w' := by
  obtain ⟨a1, c1, rfl, hc1, hm1⟩ := hx.shape
  obtain ⟨a2, c2, rfl, hc2, hm2⟩ := hn.shape
  have e0 : W.cell? ⟨p0, 0, none⟩ = some (.slice a1 xs.length c1) := h0.cell 0
  have e1 : W.cell? ⟨p1, 0, none⟩ = some (.slice a2 ns.length c2) := h1.cell 0
  obtain ⟨N, hN⟩ : ∃ N, layRNo xs ns = N := ⟨_, rfl⟩
  rw [hN] at hno ⊢
  unfold layRNo at hN
  cases hall : allW xs with
  | false =>
    rw [hall, if_neg (by simp)] at hN
    subst hN
    have hsz := size_no _ xs W hx hl hall
    clear hall
    go_enter Try.func59, Try.ntmps59
    go_wp2_with fail
    refine hsz.mono ?_
    rintro e W1 ⟨rfl, rfl⟩
    go_wp2
    exact ⟨rfl, rfl, Below.refl _ _⟩
  | true =>
    rw [hall, if_pos rfl] at hN
    have hsz := size_yes _ xs W hx hl hall
    have HA := Lib.hid hall
    have hll := sumW_le xs hall
    clear hall
    by_cases hlen : ns.length = xs.length
    · rw [if_pos hlen] at hN
      cases hfit : fitsR xs ns with
      | true => rw [hfit, if_pos rfl] at hN; exact absurd hN.symm hno
      | false =>
        rw [hfit, if_neg (by simp)] at hN
        subst hN
        obtain ⟨m, hm, hpre, hbad⟩ := fitsR_first hlen.symm hfit
        have hq : ((ns.length : Int) == (xs.length : Int)) = true := by simp; omega
        have HL := Lib.hid hlen
        have HP := Lib.hid hpre
        have hmn : m < ns.length := by omega
        have HBD := Lib.hid (show fitsB xs[m].toNat ns[m] = false from hbad)
        clear hfit hlen hpre hbad hno
        go_enter Try.func59, Try.ntmps59
        go_wp2_with fail
        refine hsz.mono ?_
        rintro e W1 ⟨rfl, rfl⟩
        go_wp2_with fail
        refine (c_need_true _ 2 _ (by simp)).mono ?_
        rintro e W1 ⟨rfl, rfl⟩
        clear hsz
        go_wp2
        go_loopw [3, 16] (fun s i wr => ∃ k : Nat, k ≤ m ∧ i = .int .i64 k ∧ LayInv W wr xs ns s k) (fun _ i _ => xs.length - (intOf i).toNat)
        case atStart => exact ⟨0, by omega, rfl, ⟨World.ownsRow_nil _ _ _ _, Below.refl _ _⟩⟩
        case round =>
          obtain ⟨k, hk, rfl, hI⟩ := hrel
          have hlt : k < xs.length := by omega
          have hlt2 : k < ns.length := by have := HL.out; omega
          have hB := hI.bel
          obtain ⟨b1, o1, rfl, x1⟩ := (hx.below hB).get hlt
          obtain ⟨b2, o2, rfl, x2⟩ := (hn.below hB).get hlt2
          obtain ⟨y, hy, g1, g2⟩ := okW_nat (allW_get HA.out k hlt)
          have d0 := (hB.cell (p := ⟨p0, 0, none⟩) h0.lt).trans e0
          have d1 := (hB.cell (p := ⟨p1, 0, none⟩) h1.lt).trans e1
          by_cases hkm : k < m
          · have hf : fitsB xs[k].toNat ns[k] = true := by
              have := fitsR_get HP.out (by have := HL.out; simp; omega) k (by simp; omega)
              simpa using this
            rw [hy, Int.toNat_natCast] at hf
            have HS := Lib.hid (show layR (xs.take (k + 1)) (ns.take (k + 1)) = layR (xs.take k) (ns.take k) ++ layB y ns[k] from by
              rw [take_snoc xs k hlt, take_snoc ns k hlt2, layR_snoc _ _ _ _ (by have := HL.out; simp; omega), hy, Int.toNat_natCast])
            have hle := layR_len (xs.take k) (ns.take k) (allW_take HA.out k)
            have hkl : (xs.take k).length ≤ 1000 := by simp; omega
            have HH := Lib.hid hI
            rw [hy] at x1
            obtain ⟨n, hm⟩ : ∃ n, ns[k] = n := ⟨_, rfl⟩
            rw [hm] at hf x2 HS
            clear hy hI hm
            go_wp2_with fail
            refine (laid_yes y n _ g1 g2 hf).mono ?_
            rintro e W2 ⟨v3, rfl, hb3, hB3⟩
            have u3 : Below W.heap.size W W2 := Below.up hB hB3
            have ho3 : OwnB W.heap.size W2 _ _ := ownsRow_below HH.out.own hB3 (Nat.le_refl _)
            clear x1 x2 d0 d1 hf
            go_wp2_with (at_builtin; refine wl_append_bytes W.heap.size rfl rfl rfl ho3 hb3 (by rw [layB_len]; omega) u3.size ?_; intro v5 W5 ho5 hB5)
            go_roundw
            case rel => exact ⟨k + 1, by omega, by go_num, ⟨by rw [HS.out]; exact ho5, u3.trans hB5⟩⟩
            case measure => simp only [intOf]; omega
          · obtain rfl : k = m := by omega
            have hf := HBD.out
            have hn64 := h64 ns[k] (List.getElem_mem hlt2)
            rw [hy, Int.toNat_natCast] at hf
            rw [hy] at x1
            obtain ⟨n, hm⟩ : ∃ n, ns[k] = n := ⟨_, rfl⟩
            rw [hm] at hf x2 hn64
            have hbig := fun w => laid_big y n w g1 g2 hn64 hf
            clear hy hm hf HBD hn64
            go_wp2_with fail
            refine (hbig _).mono ?_
            rintro e W2 ⟨rfl, hB3⟩
            clear hbig
            go_wp2
            exact ⟨rfl, rfl, Below.up hB hB3⟩
    · rw [if_neg hlen] at hN
      subst hN
      have hq : ((ns.length : Int) == (xs.length : Int)) = false := by simp; omega
      go_enter Try.func59, Try.ntmps59
      go_wp2_with fail
      refine hsz.mono ?_
      rintro e W1 ⟨rfl, rfl⟩
      go_wp2_with fail
      refine (c_need_false _ 2 _ (by simp)).mono ?_
      rintro e W1 ⟨rfl, rfl⟩
      go_wp2
      exact ⟨rfl, rfl, Below.refl _ _⟩

set_option maxRecDepth 100000 in
set_option maxHeartbeats 1000000 in
theorem lay_yes (v1 v2 : Value) (xs : List Int) (ns : List Nat) (w : World) (hx : IntsS w v1 xs) (hn : U64S w v2 ns) (hl : xs.length ≤ 1000) (hall : allW xs = true) (hlen : ns.length = xs.length) (hfit : fitsR xs ns = true) :
    Calls Try.prog 29 #[v1, v2] w fun e w' => ∃ a m c, e = .returned (.tuple #[.slice a m c, .int .i64 0]) ∧ OwnB w.heap.size w' (.slice a m c) (layR xs ns) ∧ Below w.heap.size w w' := by
  obtain ⟨a1, c1, rfl, hc1, hm1⟩ := hx.shape
  obtain ⟨a2, c2, rfl, hc2, hm2⟩ := hn.shape
  have b0 := (((Blk.new w #[.slice a1 xs.length c1] 50).alloc (.cells #[.slice a2 ns.length c2] 51)).alloc (.cells #[.slice none 0 0] 22)).alloc (.cells #[.int .i64 0] 29)
  have b1 := ((Blk.new (w.alloc (.cells #[.slice a1 xs.length c1] 50)) #[.slice a2 ns.length c2] 51).alloc (.cells #[.slice none 0 0] 22)).alloc (.cells #[.int .i64 0] 29)
  have c0 := (Blk.new ((w.alloc (.cells #[.slice a1 xs.length c1] 50)).alloc (.cells #[.slice a2 ns.length c2] 51)) #[.slice none 0 0] 22).alloc (.cells #[.int .i64 0] 29)
  have c1' := Blk.new (((w.alloc (.cells #[.slice a1 xs.length c1] 50)).alloc (.cells #[.slice a2 ns.length c2] 51)).alloc (.cells #[.slice none 0 0] 22)) #[.int .i64 0] 29
  simp only [World.size_alloc] at b1 c0 c1'
  have hBW := Below.upA (Below.upA (Below.upA (Below.new w (.cells #[.slice a1 xs.length c1] 50)) (.cells #[.slice a2 ns.length c2] 51)) (.cells #[.slice none 0 0] 22)) (.cells #[.int .i64 0] 29)
  have H1 := lay1_yes _ _ _ _ xs ns _ b0 b1 (hx.below hBW) (hn.below hBW) hl hall hlen hfit
  clear hall hlen hfit b0 b1
  go_enter Try.func29, Try.ntmps29
  go_wp2_with fail
  refine tries_S_byte 59 _ (fun w => by kernel_rfl) _ _ ?_
  simp only [World.size_alloc]
  refine H1.mono ?_
  rintro e W1 ⟨⟨va, vn, vc, rfl, ho⟩, hB1⟩
  refine ⟨c0.up hB1, c1'.up hB1, .inl ⟨_, _, _, rfl, ?_⟩⟩
  simp only [World.size_alloc] at ho
  have ho2 := (ho.setO (w.heap.size + 1 + 1) 0 (.slice va vn vc) (by omega)).setO (w.heap.size + 1 + 1 + 1) 0 (.int .i64 0) (by omega)
  have hB2 := Below.setCell (Below.setCell (Below.up hBW hB1) (p := ⟨w.heap.size + 1 + 1, 0, none⟩) (by simp; omega) (.slice va vn vc)) (p := ⟨w.heap.size + 1 + 1 + 1, 0, none⟩) (by simp; omega) (.int .i64 0)
  clear ho
  go_wp2
  refine bodyPost_ret (results_tmp2 rfl _ _ _) rfl ?_
  exact ⟨_, _, _, rfl, ho2.base (by omega), hB2⟩

set_option maxRecDepth 100000 in
set_option maxHeartbeats 1000000 in
theorem lay_no (v1 v2 : Value) (xs : List Int) (ns : List Nat) (w : World) (hx : IntsS w v1 xs) (hn : U64S w v2 ns) (hl : xs.length ≤ 1000) (h64 : ∀ n ∈ ns, n < 18446744073709551616) (hno : layRNo xs ns ≠ 0) :
    Calls Try.prog 29 #[v1, v2] w fun e w' => e = .returned (.tuple #[.slice none 0 0, .int .i64 (layRNo xs ns)]) ∧ Below w.heap.size w w' := by
  obtain ⟨a1, c1, rfl, hc1, hm1⟩ := hx.shape
  obtain ⟨a2, c2, rfl, hc2, hm2⟩ := hn.shape
  have b0 := (((Blk.new w #[.slice a1 xs.length c1] 50).alloc (.cells #[.slice a2 ns.length c2] 51)).alloc (.cells #[.slice none 0 0] 22)).alloc (.cells #[.int .i64 0] 29)
  have b1 := ((Blk.new (w.alloc (.cells #[.slice a1 xs.length c1] 50)) #[.slice a2 ns.length c2] 51).alloc (.cells #[.slice none 0 0] 22)).alloc (.cells #[.int .i64 0] 29)
  have c0 := (Blk.new ((w.alloc (.cells #[.slice a1 xs.length c1] 50)).alloc (.cells #[.slice a2 ns.length c2] 51)) #[.slice none 0 0] 22).alloc (.cells #[.int .i64 0] 29)
  have c1' := Blk.new (((w.alloc (.cells #[.slice a1 xs.length c1] 50)).alloc (.cells #[.slice a2 ns.length c2] 51)).alloc (.cells #[.slice none 0 0] 22)) #[.int .i64 0] 29
  simp only [World.size_alloc] at b1 c0 c1'
  have hBW := Below.upA (Below.upA (Below.upA (Below.new w (.cells #[.slice a1 xs.length c1] 50)) (.cells #[.slice a2 ns.length c2] 51)) (.cells #[.slice none 0 0] 22)) (.cells #[.int .i64 0] 29)
  have H1 := lay1_no _ _ _ _ xs ns _ b0 b1 (hx.below hBW) (hn.below hBW) hl h64 hno
  clear hno b0 b1
  go_enter Try.func29, Try.ntmps29
  go_wp2_with fail
  refine tries_S_byte 59 _ (fun w => by kernel_rfl) _ _ ?_
  simp only [World.size_alloc]
  refine H1.mono ?_
  rintro e W1 ⟨rfl, hB1⟩
  refine ⟨c0.up hB1, c1'.up hB1, .inr ⟨_, rfl, fun w2 hb2 => ?_⟩⟩
  have hB2 := Below.setCell (Below.setCell (Below.up (Below.up hBW hB1) hb2) (p := ⟨w.heap.size + 1 + 1, 0, none⟩) (by simp; omega) (.slice none 0 0)) (p := ⟨w.heap.size + 1 + 1 + 1, 0, none⟩) (by simp; omega) (.int .i64 (layRNo xs ns))
  go_wp2
  refine bodyPost_ret (results_tmp2 rfl _ _ _) rfl ?_
  exact ⟨rfl, hB2⟩

end Go.Proofs.Ytpooakhmpfbmgaa
