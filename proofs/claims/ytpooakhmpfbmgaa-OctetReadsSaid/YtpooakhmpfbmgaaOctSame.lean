/- gessoref01.Same. -/
import Derived.Test.YtpooakhmpfbmgaaOctBehind
namespace Go.Proofs.Ytpooakhmpfbmgaa
open Go.RowKit

set_option maxHeartbeats 400000 in
theorem same_any (v1 v2 : Value) (l1 l2 : List UInt8) (w : World) (h1 : Bytes w v1 l1) (h2 : Bytes w v2 l2) :
    Calls Try.prog 18 #[v1, v2] w fun e w' => e = .returned (.bool (decide (l1 = l2))) ∧ Below w.heap.size w w' := by
  obtain ⟨a1, c1, rfl, hc1, hm1, _, r1⟩ := h1
  obtain ⟨a2, c2, rfl, hc2, hm2, _, r2⟩ := h2
  unfold maxLen at hm1 hm2
  by_cases hlen : l1.length = l2.length
  · have HL := Lib.hid hlen
    have hb : ((l1.length : Int) != (l2.length : Int)) = false := by simp; omega
    clear hlen
    go_enter Try.func18, Try.ntmps18
    go_wp2
    go_loopw [5, 6, 14] (fun _ _ i wr => ∃ k : Nat, k ≤ l1.length ∧ i = .int .i64 k ∧ l1.take k = l2.take k ∧ Below w.heap.size w wr) (fun _ _ i _ => l1.length - (intOf i).toNat)
    case atStart => exact ⟨0, by omega, rfl, by simp, Below.refl _ _⟩
    case round =>
      obtain ⟨k, hk, rfl, heq, hB⟩ := hrel
      by_cases hlt : k < l1.length
      · have hlt2 : k < l2.length := by have := HL.out; omega
        obtain ⟨b1, o1, rfl, e1⟩ := r1 k (vb l1[k]) (by simp [hlt])
        obtain ⟨b2, o2, rfl, e2⟩ := r2 k (vb l2[k]) (by simp [hlt2])
        have e1' := (hB.cell (p := ⟨b1, o1 + k, none⟩) (World.block_lt_of_cell? w _ e1)).trans e1
        have e2' := (hB.cell (p := ⟨b2, o2 + k, none⟩) (World.block_lt_of_cell? w _ e2)).trans e2
        have HE := Lib.hid heq
        clear e1 e2 heq r1 r2
        by_cases hx : l1[k] = l2[k]
        · have hxb : (((l1[k].toNat : Int)) != (l2[k].toNat : Int)) = false := by rw [hx]; simp
          have HX := Lib.hid hx
          clear hx
          go_wp2
          go_roundw
          case rel => exact ⟨k + 1, by omega, by go_num, by rw [List.take_succ_eq_append_getElem hlt, List.take_succ_eq_append_getElem hlt2, HE.out, HX.out], hB⟩
          case measure => simp only [intOf]; omega
        · have hxb : (((l1[k].toNat : Int)) != (l2[k].toNat : Int)) = true := by simp [vb_inj, hx]
          go_wp2
          go_ret
          refine ⟨?_, hB⟩
          have : ¬ l1 = l2 := fun h => hx (by subst h; rfl)
          simp [this]
      · obtain rfl : k = l1.length := by omega
        have : l1 = l2 := by rw [List.take_of_length_le (Nat.le_refl _), List.take_of_length_le (by have := HL.out; omega)] at heq; exact heq
        have HT := Lib.hid this
        clear this heq
        go_wp2
        go_ret
        exact ⟨by rw [HT.out]; simp, hB⟩
  · have hb : ((l1.length : Int) != (l2.length : Int)) = true := by simp; omega
    have : ¬ l1 = l2 := fun h => hlen (by rw [h])
    go_enter Try.func18, Try.ntmps18
    go_wp2
    go_ret
    exact ⟨by simp [this], Below.refl _ _⟩

end Go.Proofs.Ytpooakhmpfbmgaa
