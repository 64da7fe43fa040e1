/- slices.Equal, slices.Clone of ints and of uint64s. -/
import Derived.Test.YtpooakhmpfbmgaaOctInts
namespace Go.Proofs.Ytpooakhmpfbmgaa
open Go.RowKit

set_option maxHeartbeats 400000 in
theorem equal_int (v1 v2 : Value) (l1 l2 : List Int) (w : World) (h1 : IntsS w v1 l1) (h2 : IntsS w v2 l2) :
    Calls Try.prog 34 #[v1, v2] w fun e w' => e = .returned (.bool (decide (l1 = l2))) ∧ Below w.heap.size w w' := by
  obtain ⟨a1, c1, rfl, hc1, hm1⟩ := h1.shape
  obtain ⟨a2, c2, rfl, hc2, hm2⟩ := h2.shape
  by_cases hlen : l1.length = l2.length
  · have HL := Lib.hid hlen
    have hb : ((l1.length : Int) != (l2.length : Int)) = false := by simp; omega
    clear hlen
    go_enter Try.func34, Try.ntmps34
    go_wp2
    go_loopw [13] (fun i wr => ∃ k : Nat, k ≤ l1.length ∧ i = .int .i64 k ∧ l1.take k = l2.take k ∧ Below w.heap.size w wr) (fun i _ => l1.length - (intOf i).toNat)
    case atStart => exact ⟨0, by omega, rfl, by simp, Below.refl _ _⟩
    case round =>
      obtain ⟨k, hk, rfl, heq, hB⟩ := hrel
      by_cases hlt : k < l1.length
      · have hlt2 : k < l2.length := by have := HL.out; omega
        obtain ⟨b1, o1, rfl, e1⟩ := h1.get hlt
        obtain ⟨b2, o2, rfl, e2⟩ := h2.get hlt2
        have e1' := (hB.cell (p := ⟨b1, o1 + k, none⟩) (World.block_lt_of_cell? w _ e1)).trans e1
        have e2' := (hB.cell (p := ⟨b2, o2 + k, none⟩) (World.block_lt_of_cell? w _ e2)).trans e2
        have HE := Lib.hid heq
        clear e1 e2 heq
        by_cases hx : l1[k] = l2[k]
        · have hxb : ((l1[k] : Int) != (l2[k] : Int)) = false := by rw [hx]; simp
          have HX := Lib.hid hx
          clear hx
          go_wp2
          go_quiet (fail)
          go_wp2
          go_roundw
          case rel => exact ⟨k + 1, by omega, by go_num, by rw [List.take_succ_eq_append_getElem hlt, List.take_succ_eq_append_getElem hlt2, HE.out, HX.out], hB.trans (below_drewN _ _ _)⟩
          case measure => simp only [intOf]; omega
        · have hxb : ((l1[k] : Int) != (l2[k] : Int)) = true := by simp; omega
          go_wp2
          go_quiet (fail)
          go_wp2
          go_ret
          refine ⟨?_, hB.trans (below_drewN _ _ _)⟩
          have : ¬ l1 = l2 := fun h => hx (by subst h; rfl)
          simp [this]
      · obtain rfl : k = l1.length := by omega
        have : l1 = l2 := by rw [List.take_of_length_le (Nat.le_refl _), List.take_of_length_le (by have := HL.out; omega)] at heq; exact heq
        have HT := Lib.hid this
        clear this heq
        go_wp2
        go_ret
        exact ⟨by rw [HT.out]; simp, hB⟩
  · have hb : ((l1.length : Int) != (l2.length : Int)) = true := by simp; omega
    have : ¬ l1 = l2 := fun h => hlen (by rw [h])
    go_enter Try.func34, Try.ntmps34
    go_wp2
    go_ret
    exact ⟨by simp [this], Below.refl _ _⟩

theorem one_int (l : List Int) : ∀ u ∈ l.map cI, u.oneCell' = true := by
  intro u hu
  obtain ⟨x, _, rfl⟩ := List.mem_map.1 hu
  rfl
set_option maxHeartbeats 400000 in
theorem clone_int (v : Value) (l : List Int) (w : World) (h : IntsS w v l) (hlen : l.length ≤ 1000) :
    Calls Try.prog 25 #[v] w fun e w' => ∃ v', e = .returned v' ∧ w'.ownsRow w.heap.size 3 1 v' l.length (l.map cI) ∧ Below w.heap.size w w' := by
  have h' := h
  obtain ⟨a, c, rfl, hc, hm, hnil, r⟩ := h'
  cases a with
  | none =>
    obtain rfl : c = 0 := hnil rfl
    obtain rfl : l = [] := List.eq_nil_of_length_eq_zero (by omega)
    have hq := Lib.run_eql_slice_nil (P := Try.prog) w 50 3 none 0 0 0 0 Try.underlying50
    go_enter Try.func25, Try.ntmps25
    go_wp2
    go_ret
    exact ⟨_, rfl, World.ownsRow_nil _ _ _ _, Below.refl _ _⟩
  | some ad =>
    have hq := Lib.run_eql_slice_nil (P := Try.prog) w 50 3 (some ad) l.length c 0 0 Try.underlying50
    have H := Lib.hid h
    clear h
    go_enter Try.func25, Try.ntmps25
    go_wp2_with (refine wl_append (w.heap.size) elem_int rfl rfl rfl (World.ownsRow_lit (base := w.heap.size) (e := 3) (size := 1) w #[] 0 (Nat.le_refl _) (by unfold maxLen; omega) rfl) (H.out.below ((Below.refl _ w).alloc (Nat.le_refl _) _)) (by simp) (one_int l) (by simpa using Nat.le_trans hc hm) (by omega) (by simp) ?_; intro v' w1 hown hg)
    go_ret
    exact ⟨_, rfl, by simpa using hown, by
      refine below_append (base := w.heap.size) ((Below.refl _ w).alloc (Nat.le_refl _) _) (Nat.le_refl _) (by simp) (World.ownsRow_lit (base := w.heap.size) (e := 3) (size := 1) w #[] 0 (Nat.le_refl _) (by unfold maxLen; omega) rfl) hg⟩
set_option maxHeartbeats 400000 in
theorem equal_uint64 (v1 v2 : Value) (l1 l2 : List Nat) (w : World) (h1 : U64S w v1 l1) (h2 : U64S w v2 l2) :
    Calls Try.prog 33 #[v1, v2] w fun e w' => e = .returned (.bool (decide (l1 = l2))) ∧ Below w.heap.size w w' := by
  obtain ⟨a1, c1, rfl, hc1, hm1⟩ := h1.shape
  obtain ⟨a2, c2, rfl, hc2, hm2⟩ := h2.shape
  by_cases hlen : l1.length = l2.length
  · have HL := Lib.hid hlen
    have hb : ((l1.length : Int) != (l2.length : Int)) = false := by simp; omega
    clear hlen
    go_enter Try.func33, Try.ntmps33
    go_wp2
    go_loopw [13] (fun i wr => ∃ k : Nat, k ≤ l1.length ∧ i = .int .i64 k ∧ l1.take k = l2.take k ∧ Below w.heap.size w wr) (fun i _ => l1.length - (intOf i).toNat)
    case atStart => exact ⟨0, by omega, rfl, by simp, Below.refl _ _⟩
    case round =>
      obtain ⟨k, hk, rfl, heq, hB⟩ := hrel
      by_cases hlt : k < l1.length
      · have hlt2 : k < l2.length := by have := HL.out; omega
        obtain ⟨b1, o1, rfl, e1⟩ := h1.get hlt
        obtain ⟨b2, o2, rfl, e2⟩ := h2.get hlt2
        have e1' := (hB.cell (p := ⟨b1, o1 + k, none⟩) (World.block_lt_of_cell? w _ e1)).trans e1
        have e2' := (hB.cell (p := ⟨b2, o2 + k, none⟩) (World.block_lt_of_cell? w _ e2)).trans e2
        have HE := Lib.hid heq
        clear e1 e2 heq
        by_cases hx : l1[k] = l2[k]
        · have hxb : ((l1[k] : Int) != (l2[k] : Int)) = false := by rw [hx]; simp
          have HX := Lib.hid hx
          clear hx
          go_wp2
          go_quiet (fail)
          go_wp2
          go_roundw
          case rel => exact ⟨k + 1, by omega, by go_num, by rw [List.take_succ_eq_append_getElem hlt, List.take_succ_eq_append_getElem hlt2, HE.out, HX.out], hB.trans (below_drewN _ _ _)⟩
          case measure => simp only [intOf]; omega
        · have hxb : ((l1[k] : Int) != (l2[k] : Int)) = true := by simp; omega
          go_wp2
          go_quiet (fail)
          go_wp2
          go_ret
          refine ⟨?_, hB.trans (below_drewN _ _ _)⟩
          have : ¬ l1 = l2 := fun h => hx (by subst h; rfl)
          simp [this]
      · obtain rfl : k = l1.length := by omega
        have : l1 = l2 := by rw [List.take_of_length_le (Nat.le_refl _), List.take_of_length_le (by have := HL.out; omega)] at heq; exact heq
        have HT := Lib.hid this
        clear this heq
        go_wp2
        go_ret
        exact ⟨by rw [HT.out]; simp, hB⟩
  · have hb : ((l1.length : Int) != (l2.length : Int)) = true := by simp; omega
    have : ¬ l1 = l2 := fun h => hlen (by rw [h])
    go_enter Try.func33, Try.ntmps33
    go_wp2
    go_ret
    exact ⟨by simp [this], Below.refl _ _⟩

theorem one_uint64 (l : List Nat) : ∀ u ∈ l.map cU, u.oneCell' = true := by
  intro u hu
  obtain ⟨x, _, rfl⟩ := List.mem_map.1 hu
  rfl
set_option maxHeartbeats 400000 in
theorem clone_uint64 (v : Value) (l : List Nat) (w : World) (h : U64S w v l) (hlen : l.length ≤ 1000) :
    Calls Try.prog 26 #[v] w fun e w' => ∃ v', e = .returned v' ∧ w'.ownsRow w.heap.size 26 1 v' l.length (l.map cU) ∧ Below w.heap.size w w' := by
  have h' := h
  obtain ⟨a, c, rfl, hc, hm, hnil, r⟩ := h'
  cases a with
  | none =>
    obtain rfl : c = 0 := hnil rfl
    obtain rfl : l = [] := List.eq_nil_of_length_eq_zero (by omega)
    have hq := Lib.run_eql_slice_nil (P := Try.prog) w 51 26 none 0 0 0 0 Try.underlying51
    go_enter Try.func26, Try.ntmps26
    go_wp2
    go_ret
    exact ⟨_, rfl, World.ownsRow_nil _ _ _ _, Below.refl _ _⟩
  | some ad =>
    have hq := Lib.run_eql_slice_nil (P := Try.prog) w 51 26 (some ad) l.length c 0 0 Try.underlying51
    have H := Lib.hid h
    clear h
    go_enter Try.func26, Try.ntmps26
    go_wp2_with (refine wl_append (w.heap.size) elem_u64 rfl rfl rfl (World.ownsRow_lit (base := w.heap.size) (e := 26) (size := 1) w #[] 0 (Nat.le_refl _) (by unfold maxLen; omega) rfl) (H.out.below ((Below.refl _ w).alloc (Nat.le_refl _) _)) (by simp) (one_uint64 l) (by simpa using Nat.le_trans hc hm) (by omega) (by simp) ?_; intro v' w1 hown hg)
    go_ret
    exact ⟨_, rfl, by simpa using hown, by
      refine below_append (base := w.heap.size) ((Below.refl _ w).alloc (Nat.le_refl _) _) (Nat.le_refl _) (by simp) (World.ownsRow_lit (base := w.heap.size) (e := 26) (size := 1) w #[] 0 (Nat.le_refl _) (by unfold maxLen; omega) rfl) hg⟩

end Go.Proofs.Ytpooakhmpfbmgaa
