/- gessoref01.Rows. -/
import Derived.Test.YtpooakhmpfbmgaaOctLay
namespace Go.Proofs.Ytpooakhmpfbmgaa
open Go.RowKit

theorem c_fits (k n : Nat) (r : Bool) (w : World) (hk : k ≤ 8) (hn : n < 18446744073709551616) (hr : fitsB k n = r) :
    Calls Try.prog 13 #[.int .i64 k, .int .u64 n] w fun e w' => e = .returned (.bool r) ∧ Below w.heap.size w w' := by
  have := fits_any k n w hk hn
  rwa [hr] at this

set_option maxRecDepth 100000 in
set_option maxHeartbeats 1000000 in
theorem rrows_yes (v1 v2 : Value) (xs : List Int) (ns : List Nat) (W : World) (hx : IntsS W v1 xs) (hn : U64S W v2 ns) (hl : xs.length ≤ 1000) (h64 : ∀ n ∈ ns, n < 18446744073709551616) (hall : allW xs = true) (hlen : ns.length = xs.length) (hfit : fitsR xs ns = true) :
    Calls Try.prog 30 #[v1, v2] W fun e w' => ∃ a m c, e = .returned (.tuple #[.slice a m c, .int .i64 0]) ∧ OwnB W.heap.size w' (.slice a m c) (layR xs ns) ∧ Below W.heap.size W w' := by
  obtain ⟨a1, c1, rfl, hc1, hm1⟩ := hx.shape
  obtain ⟨a2, c2, rfl, hc2, hm2⟩ := hn.shape
  have hsz := rsize_yes _ xs W hx hl hall
  have hq : ((ns.length : Int) != (xs.length : Int)) = false := by simp; omega
  have HL := Lib.hid hlen
  have HF := Lib.hid hfit
  have HA := Lib.hid hall
  have hll := layR_len xs ns hall
  clear hfit hall hlen
  go_enter Try.func30, Try.ntmps30
  go_wp2_with fail
  refine hsz.mono ?_
  rintro e W1 ⟨rfl, rfl⟩
  clear hsz
  go_wp2
  go_loopw [8, 25] (fun s i wr => ∃ k : Nat, k ≤ xs.length ∧ i = .int .i64 k ∧ LayInv W wr xs ns s k) (fun _ i _ => xs.length - (intOf i).toNat)
  case atStart => exact ⟨0, by omega, rfl, ⟨World.ownsRow_nil _ _ _ _, Below.refl _ _⟩⟩
  case round =>
    obtain ⟨k, hk, rfl, hI⟩ := hrel
    by_cases hlt : k < xs.length
    · have hlt2 : k < ns.length := by have := HL.out; omega
      have hB := hI.bel
      obtain ⟨b1, o1, rfl, x1⟩ := (hx.below hB).get hlt
      obtain ⟨b2, o2, rfl, x2⟩ := (hn.below hB).get hlt2
      obtain ⟨y, hy, g1, g2⟩ := okW_nat (allW_get HA.out k hlt)
      have hf := fitsR_get HF.out HL.out.symm k hlt
      rw [hy, Int.toNat_natCast] at hf
      have HS := Lib.hid (show layR (xs.take (k + 1)) (ns.take (k + 1)) = layR (xs.take k) (ns.take k) ++ layB y ns[k] from by
        rw [take_snoc xs k hlt, take_snoc ns k hlt2, layR_snoc _ _ _ _ (by have := HL.out; simp; omega), hy, Int.toNat_natCast])
      have hle := layR_len (xs.take k) (ns.take k) (allW_take HA.out k)
      have hkl : (xs.take k).length ≤ 1000 := by simp; omega
      have hn64 := h64 ns[k] (List.getElem_mem hlt2)
      have HH := Lib.hid hI
      rw [hy] at x1
      obtain ⟨m, hm⟩ : ∃ m, ns[k] = m := ⟨_, rfl⟩
      rw [hm] at hf x2 HS hn64
      have hfit := fun w => c_fits y m true w g2 hn64 hf
      clear hy hI hm hf
      go_wp2_with fail
      refine (hfit _).mono ?_
      rintro e W2 ⟨rfl, hB2⟩
      have u2 : Below W.heap.size W W2 := Below.up hB hB2
      obtain ⟨k1, k2⟩ := bcell u2
      have z1 := (hB2.cell (p := ⟨b1, o1 + k, none⟩) (World.block_lt_of_cell? _ _ x1)).trans x1
      have z2 := (hB2.cell (p := ⟨b2, o2 + k, none⟩) (World.block_lt_of_cell? _ _ x2)).trans x2
      clear k1 k2 x1 x2 hfit
      go_wp2_with fail
      refine (rlay_any y m _ g2 hn64).mono ?_
      rintro e W3 ⟨v3, rfl, ho3, hB3⟩
      have u3 : Below W.heap.size W W3 := Below.up u2 hB3
      have hb3 := ho3.bytes
      have hown : OwnB W.heap.size W3 _ _ := ownsRow_below (ownsRow_below HH.out.own hB2 (Nat.le_refl _)) hB3 (Nat.le_refl _)
      clear z1 z2
      go_wp2_with (at_builtin; refine wl_append_bytes W.heap.size rfl rfl rfl hown hb3 (by rw [layB_len]; omega) u3.size ?_; intro v5 W5 ho5 hB5)
      go_roundw
      case rel => exact ⟨k + 1, by omega, by go_num, ⟨by rw [HS.out]; exact ho5, u3.trans hB5⟩⟩
      case measure => simp only [intOf]; omega
    · obtain rfl : k = xs.length := by omega
      have ho := hI.own
      rw [List.take_length, ← HL.out, List.take_length] at ho
      have HO := Lib.hid ho
      clear ho
      obtain ⟨a3, c3, rfl, _⟩ := ownsRow_slice hI.own
      go_wp2
      refine bodyPost_ret (results_tmp2 rfl _ _ _) rfl ?_
      exact ⟨_, _, _, rfl, HO.out, hI.bel⟩

set_option maxRecDepth 100000 in
set_option maxHeartbeats 1000000 in
theorem rrows_no (v1 v2 : Value) (xs : List Int) (ns : List Nat) (W : World) (hx : IntsS W v1 xs) (hn : U64S W v2 ns) (hl : xs.length ≤ 1000) (h64 : ∀ n ∈ ns, n < 18446744073709551616) (hno : layRNo xs ns ≠ 0) :
    Calls Try.prog 30 #[v1, v2] W fun e w' => e = .returned (.tuple #[.slice none 0 0, .int .i64 (layRNo xs ns)]) ∧ Below W.heap.size W w' := by
  obtain ⟨a1, c1, rfl, hc1, hm1⟩ := hx.shape
  obtain ⟨a2, c2, rfl, hc2, hm2⟩ := hn.shape
  obtain ⟨N, hN⟩ : ∃ N, layRNo xs ns = N := ⟨_, rfl⟩
  rw [hN] at hno ⊢
  unfold layRNo at hN
  cases hall : allW xs with
  | false =>
    rw [hall, if_neg (by simp)] at hN
    subst hN
    have hsz := rsize_no _ xs W hx hl hall
    clear hall
    go_enter Try.func30, Try.ntmps30
    go_wp2_with fail
    refine hsz.mono ?_
    rintro e W1 ⟨rfl, rfl⟩
    go_wp2
    refine bodyPost_ret (results_tmp2 rfl _ _ _) rfl ?_
    exact ⟨rfl, Below.refl _ _⟩
  | true =>
    rw [hall, if_pos rfl] at hN
    have hsz := rsize_yes _ xs W hx hl hall
    have HA := Lib.hid hall
    have hll := sumW_le xs hall
    clear hall
    by_cases hlen : ns.length = xs.length
    · rw [if_pos hlen] at hN
      cases hfit : fitsR xs ns with
      | true => rw [hfit, if_pos rfl] at hN; exact absurd hN.symm hno
      | false =>
        rw [hfit, if_neg (by simp)] at hN
        subst hN
        obtain ⟨m, hm, hpre, hbad⟩ := fitsR_first hlen.symm hfit
        have hq : ((ns.length : Int) != (xs.length : Int)) = false := by simp; omega
        have HL := Lib.hid hlen
        have HP := Lib.hid hpre
        have hmn : m < ns.length := by omega
        have HBD := Lib.hid (show fitsB xs[m].toNat ns[m] = false from hbad)
        clear hfit hlen hpre hbad hno
        go_enter Try.func30, Try.ntmps30
        go_wp2_with fail
        refine hsz.mono ?_
        rintro e W1 ⟨rfl, rfl⟩
        clear hsz
        go_wp2
        go_loopw [8, 25] (fun s i wr => ∃ k : Nat, k ≤ m ∧ i = .int .i64 k ∧ LayInv W wr xs ns s k) (fun _ i _ => xs.length - (intOf i).toNat)
        case atStart => exact ⟨0, by omega, rfl, ⟨World.ownsRow_nil _ _ _ _, Below.refl _ _⟩⟩
        case round =>
          obtain ⟨k, hk, rfl, hI⟩ := hrel
          have hlt : k < xs.length := by omega
          have hlt2 : k < ns.length := by have := HL.out; omega
          have hB := hI.bel
          obtain ⟨b1, o1, rfl, x1⟩ := (hx.below hB).get hlt
          obtain ⟨b2, o2, rfl, x2⟩ := (hn.below hB).get hlt2
          obtain ⟨y, hy, g1, g2⟩ := okW_nat (allW_get HA.out k hlt)
          have hn64 := h64 ns[k] (List.getElem_mem hlt2)
          by_cases hkm : k < m
          · have hf : fitsB xs[k].toNat ns[k] = true := by
              have := fitsR_get HP.out (by have := HL.out; simp; omega) k (by simp; omega)
              simpa using this
            rw [hy, Int.toNat_natCast] at hf
            have HS := Lib.hid (show layR (xs.take (k + 1)) (ns.take (k + 1)) = layR (xs.take k) (ns.take k) ++ layB y ns[k] from by
              rw [take_snoc xs k hlt, take_snoc ns k hlt2, layR_snoc _ _ _ _ (by have := HL.out; simp; omega), hy, Int.toNat_natCast])
            have hle := layR_len (xs.take k) (ns.take k) (allW_take HA.out k)
            have hkl : (xs.take k).length ≤ 1000 := by simp; omega
            have HH := Lib.hid hI
            rw [hy] at x1
            obtain ⟨n, hm⟩ : ∃ n, ns[k] = n := ⟨_, rfl⟩
            rw [hm] at hf x2 HS hn64
            have hfit := fun w => c_fits y n true w g2 hn64 hf
            clear hy hI hm hf
            go_wp2_with fail
            refine (hfit _).mono ?_
            rintro e W2 ⟨rfl, hB2⟩
            have u2 : Below W.heap.size W W2 := Below.up hB hB2
            have z1 := (hB2.cell (p := ⟨b1, o1 + k, none⟩) (World.block_lt_of_cell? _ _ x1)).trans x1
            have z2 := (hB2.cell (p := ⟨b2, o2 + k, none⟩) (World.block_lt_of_cell? _ _ x2)).trans x2
            clear x1 x2 hfit
            go_wp2_with fail
            refine (rlay_any y n _ g2 hn64).mono ?_
            rintro e W3 ⟨v3, rfl, ho3, hB3⟩
            have u3 : Below W.heap.size W W3 := Below.up u2 hB3
            have hb3 := ho3.bytes
            have hown : OwnB W.heap.size W3 _ _ := ownsRow_below (ownsRow_below HH.out.own hB2 (Nat.le_refl _)) hB3 (Nat.le_refl _)
            clear z1 z2
            go_wp2_with (at_builtin; refine wl_append_bytes W.heap.size rfl rfl rfl hown hb3 (by rw [layB_len]; omega) u3.size ?_; intro v5 W5 ho5 hB5)
            go_roundw
            case rel => exact ⟨k + 1, by omega, by go_num, ⟨by rw [HS.out]; exact ho5, u3.trans hB5⟩⟩
            case measure => simp only [intOf]; omega
          · obtain rfl : k = m := by omega
            have hf := HBD.out
            rw [hy, Int.toNat_natCast] at hf
            rw [hy] at x1
            obtain ⟨n, hm⟩ : ∃ n, ns[k] = n := ⟨_, rfl⟩
            rw [hm] at hf x2 hn64
            have hfit := fun w => c_fits y n false w g2 hn64 hf
            clear hy hm hf HBD hn64
            go_wp2_with fail
            refine (hfit _).mono ?_
            rintro e W2 ⟨rfl, hB3⟩
            clear hfit
            go_wp2
            refine bodyPost_ret (results_tmp2 rfl _ _ _) rfl ?_
            exact ⟨rfl, Below.up hB hB3⟩
    · rw [if_neg hlen] at hN
      subst hN
      have hq : ((ns.length : Int) != (xs.length : Int)) = true := by simp; omega
      go_enter Try.func30, Try.ntmps30
      go_wp2_with fail
      refine hsz.mono ?_
      rintro e W1 ⟨rfl, rfl⟩
      go_wp2
      refine bodyPost_ret (results_tmp2 rfl _ _ _) rfl ?_
      exact ⟨rfl, Below.refl _ _⟩

end Go.Proofs.Ytpooakhmpfbmgaa
