/- Walks by data and names, part 40: gessoref10: ahead, Canvas, Patch; gessoref05.Same. gessoref05.Same: do two canvases show the same? Layer 21: canvases, from the contracts of layer 10, as contracts over data. -/
import Derived.Test.YtkjpcjccddggoaaGreatPk39
import Derived.Test.YtkjpcjccddggoaaGreatPk7
import Derived.Test.YtkjpcjccddggoaaGreatPk29
import Derived.Test.YtkjpcjccddggoaaGreatPk36
namespace Go.Proofs.YtkjpcjccddggoaaGreat
set_option maxRecDepth 20000
open Go.RowKit
set_option maxRecDepth 100000 in
set_option maxHeartbeats 1000000 in
theorem refahead_any (x y : Int) (v : Value) (L : List (List Col)) (i : Nat) (w : World) (hL : Tiles w v L) (hi : i ≤ L.length) (hl : L.length ≤ 1000) :
    Calls Tryz.prog 112 #[canV x y v, .int .i64 i] w fun e w' => e = .returned (tileV (aheadZ L i)) ∧ Below w.heap.size w w' := by
  obtain ⟨a1, c1, rfl, hc1, hm1⟩ := hL.slice
  have n0 := Blk.new (w.alloc (.cells #[.int .i64 x, .int .i64 y, .slice a1 L.length c1] 50)) (tcells noTile) 109
  simp only [World.size_alloc] at n0
  have hcc := ((Blk.new w #[.int .i64 x, .int .i64 y, .slice a1 L.length c1] 50).alloc (.cells (tcells noTile) 109)).cell 2
  simp only [List.getElem?_toArray, List.getElem?_cons_succ, List.getElem?_cons_zero] at hcc
  by_cases h0 : i = 0
  · subst h0
    have e : aheadZ L 0 = noTile := rfl
    rw [e]
    go_enter Tryz.func112, Tryz.ntmps112
    go_wp2_with (first | refine wl_alloc_tile rfl ?_ | refine wl_build_tile rfl ?_ | refine wl_store_tile rfl rfl rfl n0 (by rfl) noTile_len ?_)
    refine bodyPost_ret (results_tile1 (p := 4) (by kernel_rfl) _ _ (w.heap.size + 1) noTile noTile_len rfl (Blk.tileAt (b := w.heap.size + 1) (t := 109) (n0.setRow))) rfl ?_
    exact ⟨rfl, below_row (by (repeat (first | assumption | exact Below.refl _ _ | refine below_dN ?_ _ | refine Below.alloc ?_ (by first | exact Nat.le_refl _ | omega | (simp; fail_if_success (focus skip)) | (simp; omega)) _ | refine Below.setCell ?_ (by first | exact Nat.le_refl _ | omega | (simp; fail_if_success (focus skip)) | (simp; omega)) _ | refine Below.drew ?_ | refine Below.trans ?_ (Below.mono (by assumption) (by first | exact Nat.le_refl _ | omega | (simp; fail_if_success (focus skip)) | (simp; omega)))))) _ (by omega) _⟩
  · obtain ⟨k, rfl⟩ : ∃ k, i = k + 1 := ⟨i - 1, by omega⟩
    obtain ⟨b1, o1, rfl, e1, x1⟩ := hL.get k (by omega)
    have hw : IntKind.i64.wrap (((k + 1 : Nat) : Int) - 1) = (k : Int) := wr64 _ _ (by omega) (by omega)
    have hq0 : ((((k + 1 : Nat) : Int)) == 0) = false := by simp; omega
    have hkl : (k : Int) < L.length := by omega
    have t1 : L[k].length = 64 := hL.1 _ (by simp)
    have e : aheadZ L (k + 1) = L[k] := by unfold aheadZ; rw [if_neg h0, Nat.add_sub_cancel, List.getD_eq_getElem?_getD, List.getElem?_eq_getElem (by omega)]; rfl
    have e1' := (e1.below (Below.new w (.cells #[.int .i64 x, .int .i64 y, .slice (some ⟨b1, o1, none⟩) L.length c1] 50)) x1).below (Below.new _ (.cells (tcells noTile) 109)) (by simp; omega)
    rw [e]
    clear e h0 e1
    go_enter Tryz.func112, Tryz.ntmps112
    go_wp2_with (first | refine wl_alloc_tile rfl ?_ | refine wl_load_tile rfl rfl t1 e1' ?_ | refine wl_store_tile rfl rfl rfl n0 (by rfl) t1 ?_)
    refine bodyPost_ret (results_tile1 (p := 4) (by kernel_rfl) _ _ (w.heap.size + 1) L[k] t1 rfl (Blk.tileAt (b := w.heap.size + 1) (t := 109) (n0.setRow))) rfl ?_
    exact ⟨rfl, below_row (by (repeat (first | assumption | exact Below.refl _ _ | refine below_dN ?_ _ | refine Below.alloc ?_ (by first | exact Nat.le_refl _ | omega | (simp; fail_if_success (focus skip)) | (simp; omega)) _ | refine Below.setCell ?_ (by first | exact Nat.le_refl _ | omega | (simp; fail_if_success (focus skip)) | (simp; omega)) _ | refine Below.drew ?_ | refine Below.trans ?_ (Below.mono (by assumption) (by first | exact Nat.le_refl _ | omega | (simp; fail_if_success (focus skip)) | (simp; omega)))))) _ (by omega) _⟩
set_option maxRecDepth 100000 in
set_option maxHeartbeats 2000000 in
theorem refcanvas_any (x y : Nat) (v : Value) (L : List (List Col)) (w : World) (hx : x ≤ 4) (hy : y ≤ 4) (hL : Tiles w v L) (hl : L.length ≤ 1000) :
    Calls Tryz.prog 74 #[canV x y v] w fun e w' => ∃ v', e = .returned v' ∧ OwnB w.heap.size w' v' (canvasB x y L) ∧ Below w.heap.size w w' := by
  obtain ⟨a1, c1, rfl, hc1, hm1⟩ := hL.slice
  have hx' : IntKind.u8.wrap (x : Int) = x := by show ((x : Int) % 256) = x; omega
  have hy' : IntKind.u8.wrap (y : Int) = y := by show ((y : Int) % 256) = y; omega
  have k0 := Blk.new w #[.int .i64 x, .int .i64 y, .slice a1 L.length c1] 50
  have hB1 := Below.new w (.cells #[.int .i64 x, .int .i64 y, .slice a1 L.length c1] 50)
  have hown : OwnB (w.heap.size + 1) ((w.alloc (.cells #[.int .i64 x, .int .i64 y, .slice a1 L.length c1] 50)).alloc (.cells #[.int .u8 x, .int .u8 y] 5)) (.slice (some ⟨w.heap.size + 1, 0, none⟩) 2 2) (headB x y) := by
    have h := World.ownsRow_lit (base := w.heap.size + 1) (e := 5) (size := 1) (w.alloc (.cells #[.int .i64 x, .int .i64 y, .slice a1 L.length c1] 50)) #[.int .u8 x, .int .u8 y] 2 (by simp) (by decide) rfl
    unfold OwnB headB
    simpa [← u8_small x hx, ← u8_small y hy] using h
  have HX := Lib.hid hx'
  have hT2 := (hL.below hB1).below (Below.new _ (.cells #[.int .u8 x, .int .u8 y] 5))
  have hB2 := Below.upA hB1 (.cells #[.int .u8 x, .int .u8 y] 5)
  have k2 := k0.alloc (.cells #[.int .u8 x, .int .u8 y] 5)
  have hs2 : ((w.alloc (.cells #[.int .i64 x, .int .i64 y, .slice a1 L.length c1] 50)).alloc (.cells #[.int .u8 x, .int .u8 y] 5)).heap.size = w.heap.size + 2 := by simp
  clear HX
  obtain ⟨W2, hW2⟩ : ∃ W2, (w.alloc (.cells #[.int .i64 x, .int .i64 y, .slice a1 L.length c1] 50)).alloc (.cells #[.int .u8 x, .int .u8 y] 5) = W2 := ⟨_, rfl⟩
  rw [hW2] at hown hT2 hB2 k2 hs2
  clear hB1
  obtain ⟨q1, q2, q3⟩ := k2.all
  obtain ⟨q4, q5, q6⟩ := k0.all
  go_enter Tryz.func74, Tryz.ntmps74
  go_wp2
  clear hW2 q1 q2 q3 q4 q5 q6 k0
  go_loopw [3, 16] (fun o i wr => ∃ k : Nat, k ≤ L.length ∧ i = .int .i64 k ∧ OwnB (w.heap.size + 1) wr o (headB x y ++ bodyB (aheadZ L) 0 (L.take k)) ∧ Below w.heap.size w wr ∧ Below (w.heap.size + 1) W2 wr)
    (fun _ i _ => L.length - (intOf i).toNat)
  case atStart => exact ⟨0, by omega, rfl, by simpa [bodyB] using hown, hB2, Below.refl _ _⟩
  case round =>
    obtain ⟨k, hk, rfl, ho, hB, hB'⟩ := hrel
    have kw := k2.below hB' (by omega)
    have hTw := hL.below hB
    by_cases hlt : k < L.length
    · have hT64 : L[k].length = 64 := hL.1 _ (by simp)
      have hZ64 : (aheadZ L k).length = 64 := by
        unfold aheadZ
        split
        · exact noTile_len
        · rw [List.getD_eq_getElem?_getD, List.getElem?_eq_getElem (by omega)]; exact hL.1 _ (by simp)
      obtain ⟨b, o', rfl, hT, hb⟩ := hTw.get k hlt
      have hbl := bodyB_len (aheadZ L) (L.take k) (fun T hT => hL.1 T (List.mem_of_mem_take hT)) 0
      have hlk : (L.take k).length ≤ 1000 := by simp; omega
      have hbl2 : (headB x y ++ bodyB (aheadZ L) 0 (L.take k)).length ≤ 400000 := by unfold headB; simp; omega
      have HS : Hid (headB x y ++ bodyB (aheadZ L) 0 (L.take (k + 1)) = (headB x y ++ bodyB (aheadZ L) 0 (L.take k)) ++ stepB L[k] (aheadZ L k)) := by
        refine Lib.hid ?_
        rw [List.take_succ_eq_append_getElem hlt, bodyB_snoc, List.append_assoc, List.length_take, Nat.min_eq_left hk, Nat.zero_add]
      obtain ⟨T, eT⟩ : ∃ T, L[k] = T := ⟨_, rfl⟩
      rw [eT] at hT64 hT HS
      obtain ⟨Z, eZ⟩ : ∃ Z, aheadZ L k = Z := ⟨_, rfl⟩
      rw [eZ] at hZ64 HS
      have HZ := Lib.hid eZ
      clear eT eZ hbl hlk
      obtain ⟨R, hR⟩ : ∃ R, headB x y ++ bodyB (aheadZ L) 0 (L.take k) = R := ⟨_, rfl⟩
      rw [hR] at ho hbl2 HS
      clear hR
      have bT := Blk.new wr (tcells T) 109
      obtain ⟨ao, co, rfl, hco, hmo⟩ := ownsRow_slice ho
      go_wp2_with (first | refine wl_load_tile rfl rfl hT64 hT ?_ | refine wl_alloc_tile rfl ?_ | refine wl_store_tile_new rfl rfl rfl rfl (by rfl) hT64 ?_)
      have hsw := hB.size
      have hsw' := hB'.size
      have ho1 : OwnB (w.heap.size + 1) (wr.alloc (.cells (tcells T) 109)) (.slice ao R.length co) R := ownsRow_below ho (Below.new wr _) (Nat.le_refl _)
      have hB1 := hB.alloc hsw (.cells (tcells T) 109)
      have hB1' := hB'.alloc (by omega) (.cells (tcells T) 109)
      have kw1 := kw.alloc (.cells (tcells T) 109)
      have hs1 : w.heap.size + 1 ≤ (wr.alloc (.cells (tcells T) 109)).heap.size := by simp; omega
      obtain ⟨pT, hpT⟩ : ∃ p, wr.heap.size = p := ⟨_, rfl⟩
      rw [hpT] at bT ⊢
      have hpT1 : w.heap.size + 1 ≤ pT := by omega
      obtain ⟨W3, hW3⟩ : ∃ W3, wr.alloc (.cells (tcells T) 109) = W3 := ⟨_, rfl⟩
      rw [hW3] at bT ho1 hB1 hB1' kw1 hs1 ⊢
      clear hW3 hpT hB hB' kw hTw hT ho hb hsw hsw'
      have tL := hL.below hB1
      refine wp_region_cuts [.q [_, _, _], .e _] [_] rfl (fun w'' => Below W3.heap.size W3 w'') (by kernel_rfl) (by kernel_rfl) (fun _ _ d _ _ h => by cases d <;> exact h) ?_
      refine cut_q (Below.refl _ W3).drew ?_
      repeat (first | go_big_quiet_step ((intros; rfl)) | quiet_step ((intros; rfl)) | (refine wq_load_tile rfl rfl hT64 (fun w'' hC => (Blk.up bT hC).tileAt) ?_; simp only [Act.put, List.setIfInBounds_toArray, List.set_cons_succ, List.set_cons_zero]) | (refine wq_load_blk _ rfl rfl (fun w'' hC => Blk.up kw1 hC) Tryz.underlying50 rfl (by kernel_rfl) ?_; simp only [Act.put, List.setIfInBounds_toArray, List.set_cons_succ, List.set_cons_zero]) | (refine wq_loadB rfl rfl (by kernel_rfl) (by assumption) ?_; simp only [Act.put, List.setIfInBounds_toArray, List.set_cons_succ, List.set_cons_zero]))
      refine wpQuiet_nil ?_
      refine cut_e ?_
      go_wp2_with fail
      refine (refahead_any x y _ L k _ (tL.below (Below.refl W3.heap.size W3).drew) hk hl).mono ?_
      rintro e W4 ⟨rfl, hB4⟩
      rw [HZ.out]
      have hB34 : Below W3.heap.size W3 W4 := Below.up (Below.refl W3.heap.size W3).drew hB4
      go_wp2
      refine ⟨hB34, ?_⟩
      refine cut_end ?_
      have bT4 := Blk.up bT hB34
      have ho4 : OwnB (w.heap.size + 1) W4 (.slice ao R.length co) R := ownsRow_below ho1 hB34 (Nat.le_refl _)
      have hB4a := hB1.trans (hB34.mono (by omega))
      have hB4b := hB1'.trans (hB34.mono hs1)
      have hs4 := hB34.size
      have hlt' : k + 1 ≤ L.length := hlt
      clear tL bT ho1 hB1 hB1' kw1 HZ hB34 hB4
      by_cases hTZ : T = Z
      · have hqe : (T == Z) = true := by simpa using hTZ
        have HT : Hid (stepB T Z = [0]) := by refine Lib.hid ?_; unfold stepB; rw [if_pos hTZ]
        clear hTZ
        go_wp2_with (first | (refine wl_eql_tile rfl rfl rfl hT64 hZ64 ?_; rw [hqe]) | (refine wl_append_bytes (w.heap.size + 1) rfl rfl rfl (ownsRow_below ho4 (Below.new W4 _) (Nat.le_refl _)) (bytes_new W4 [0] _ _ _ 1 rfl rfl rfl (by decide)) (by simp; omega) (by simp; omega) ?_; intro v5 W5 ho5 hB5))
        go_roundw
        case rel => exact ⟨k + 1, hlt', by go_num, by rw [HS.out, HT.out]; exact ho5, (hB4a.alloc (by omega) _).trans (hB5.mono (by omega)), (hB4b.alloc (by omega) _).trans hB5⟩
        case measure => simp only [intOf]; omega
      · have hqe : (T == Z) = false := by simpa using hTZ
        have HT : Hid (stepB T Z = enc T) := by refine Lib.hid ?_; unfold stepB; rw [if_neg hTZ]
        have hel := enc_len T hT64
        have hrl := runsOf_le T hT64
        clear hTZ
        go_wp2_with (first | (refine wl_eql_tile rfl rfl rfl hT64 hZ64 ?_; rw [hqe]) | refine wl_load_tile rfl rfl hT64 bT4.tileAt ?_)
        refine (rtile_any T hT64 _).mono ?_
        rintro e W5 ⟨v5, rfl, ho5, hB5⟩
        have hs5 := hB5.size
        have ho5' : OwnB (w.heap.size + 1) W5 (.slice ao R.length co) R := ownsRow_below ho4 hB5 (Nat.le_refl _)
        go_wp2_with (refine wl_append_bytes (w.heap.size + 1) rfl rfl rfl ho5' ho5.bytes (by omega) (by omega) ?_; intro v6 W6 ho6 hB6)
        go_roundw
        case rel => exact ⟨k + 1, hlt', by go_num, by rw [HS.out, HT.out]; exact ho6, (hB4a.trans (hB5.mono (by omega))).trans (hB6.mono (by omega)), (hB4b.trans (hB5.mono (by omega))).trans hB6⟩
        case measure => simp only [intOf]; omega
    · obtain rfl : k = L.length := by omega
      go_wp2
      go_ret
      refine ⟨_, rfl, ?_, hB⟩
      rw [List.take_length] at ho
      exact ownsRow_base ho (by omega)
end Go.Proofs.YtkjpcjccddggoaaGreat

namespace Go.Proofs.YtkjpcjccddggoaaGreat
set_option maxRecDepth 20000
open Go.RowKit
set_option maxRecDepth 100000 in
set_option maxHeartbeats 2000000 in
theorem same_any (x y x' y' : Int) (v v' : Value) (L M : List (List Col)) (w : World) (hL : Tiles w v L) (hM : Tiles w v' M) (hl : L.length ≤ 1000000) :
    Calls Tryz.prog 65 #[canV x y v, canV x' y' v'] w fun e w' => e = .returned (.bool (decide (x = x' ∧ y = y' ∧ L = M))) ∧ Below w.heap.size w w' := by
  obtain ⟨a, c, rfl, hc, hm⟩ := hL.slice
  obtain ⟨a', c', rfl, hc', hm'⟩ := hM.slice
  have hB2 : Below w.heap.size w ((w.alloc (.cells #[.int .i64 x, .int .i64 y, .slice a L.length c] 50)).alloc (.cells #[.int .i64 x', .int .i64 y', .slice a' M.length c'] 50)) := by repeat (first | assumption | exact Below.refl _ _ | refine below_dN ?_ _ | refine Below.alloc ?_ (by first | exact Nat.le_refl _ | omega | (simp; fail_if_success (focus skip)) | (simp; omega)) _ | refine Below.setCell ?_ (by first | exact Nat.le_refl _ | omega | (simp; fail_if_success (focus skip)) | (simp; omega)) _ | refine Below.drew ?_ | refine Below.trans ?_ (Below.mono (by assumption) (by first | exact Nat.le_refl _ | omega | (simp; fail_if_success (focus skip)) | (simp; omega))))
  have k1 := Blk.new (w.alloc (.cells #[.int .i64 x, .int .i64 y, .slice a L.length c] 50)) #[.int .i64 x', .int .i64 y', .slice a' M.length c'] 50
  simp only [World.size_alloc] at k1
  by_cases h1 : x = x'
  · by_cases h2 : y = y'
    · by_cases h3 : L.length = M.length
      · have q1 : (x != x') = false := by simpa using h1
        have q2 : (y != y') = false := by simpa using h2
        have q3 : ((L.length : Int) != (M.length : Int)) = false := by rw [bne_eq_false_iff_eq]; omega
        have e : decide (x = x' ∧ y = y' ∧ L = M) = decide (L = M) := by simp [h1, h2]
        rw [e]
        have HL := Lib.hid h3
        clear e h1 h2 h3
        go_enter Tryz.func65, Tryz.ntmps65
        go_wp2
        obtain ⟨W2, hW2⟩ : ∃ W2, (w.alloc (.cells #[.int .i64 x, .int .i64 y, .slice a L.length c] 50)).alloc (.cells #[.int .i64 x', .int .i64 y', .slice a' M.length c'] 50) = W2 := ⟨_, rfl⟩
        rw [hW2] at hB2 k1 ⊢
        clear hW2
        go_loopw [31] (fun i wr => ∃ k : Nat, k ≤ L.length ∧ i = .int .i64 k ∧ L.take k = M.take k ∧ Below W2.heap.size W2 wr) (fun i _ => L.length - (intOf i).toNat)
        case atStart => exact ⟨0, by omega, rfl, by simp, Below.refl _ _⟩
        case round =>
          obtain ⟨k, hk, rfl, heq, hB⟩ := hrel
          by_cases hlt : k < L.length
          · have hlt2 : k < M.length := by have := HL.out; omega
            have hB0 := Below.up hB2 hB
            obtain ⟨b, o, rfl, hT, hb⟩ := (hL.below hB0).get k hlt
            obtain ⟨b2, o2, rfl, hT2, hb2⟩ := (hM.below hB0).get k hlt2
            have t1 : L[k].length = 64 := hL.1 _ (by simp)
            have t2 : M[k].length = 64 := hM.1 _ (by simp)
            have kw := Blk.up k1 hB
            have HE := Lib.hid heq
            clear heq
            have HT1 : Hid (L.take (k + 1) = L.take k ++ [L[k]]) := Lib.hid (List.take_succ_eq_append_getElem hlt)
            have HT2 : Hid (M.take (k + 1) = M.take k ++ [M[k]]) := Lib.hid (List.take_succ_eq_append_getElem hlt2)
            have HN : Hid (L[k] ≠ M[k] → ¬ L = M) := Lib.hid (fun h e => h (by subst e; rfl))
            obtain ⟨T, eT⟩ : ∃ T, L[k] = T := ⟨_, rfl⟩
            obtain ⟨Z, eZ⟩ : ∃ Z, M[k] = Z := ⟨_, rfl⟩
            rw [eT] at t1 hT HT1 HN
            rw [eZ] at t2 hT2 HT2 HN
            clear eT eZ
            have bT := Blk.new wr (tcells T) 109
            go_wp2_with (first | refine wl_load_tile rfl rfl t1 hT ?_ | refine wl_alloc_tile rfl ?_ | refine wl_store_tile_new rfl rfl rfl rfl (by rfl) t1 ?_)
            have kw1 := kw.alloc (.cells (tcells T) 109)
            have hT2' := hT2.below (Below.new wr (.cells (tcells T) 109)) hb2
            have hB1 := Below.upA hB (.cells (tcells T) 109)
            have hsz : wr.heap.size < (wr.alloc (.cells (tcells T) 109)).heap.size := by simp
            have hb3 : b2 < (wr.alloc (.cells (tcells T) 109)).heap.size := by simp; omega
            obtain ⟨W3, hW3⟩ : ∃ W3, wr.alloc (.cells (tcells T) 109) = W3 := ⟨_, rfl⟩
            rw [hW3] at bT kw1 hT2' hB1 hsz hb3 ⊢
            clear hW3
            have e2 : W3.cell? ⟨w.heap.size + 1, 2, none⟩ = some (.slice (some ⟨b2, o2, none⟩) M.length c') := kw1.cell 2
            refine wp_region_cuts [.q [_, _, _, _, _, _]] [_] rfl (fun w'' => Below W3.heap.size W3 w'') (by kernel_rfl) (by kernel_rfl) (fun _ _ d _ _ h => by cases d <;> exact h) ?_
            refine cut_q (Below.refl _ W3).drew ?_
            repeat (first | go_big_quiet_step ((intros; rfl)) | quiet_step ((intros; rfl)) | (refine wq_load_tile rfl rfl t1 (fun w'' hC => (Blk.up bT hC).tileAt) ?_; simp only [Act.put, List.setIfInBounds_toArray, List.set_cons_succ, List.set_cons_zero]) | (refine wq_load_tile rfl rfl t2 (fun w'' hC => hT2'.below hC hb3) ?_; simp only [Act.put, List.setIfInBounds_toArray, List.set_cons_succ, List.set_cons_zero]) | (refine wq_loadB rfl rfl (by kernel_rfl) (by assumption) ?_; simp only [Act.put, List.setIfInBounds_toArray, List.set_cons_succ, List.set_cons_zero]))
            refine wpQuiet_nil ?_
            refine cut_end ?_
            have hB3 := Below.drew hB1
            by_cases hTZ : T = Z
            · have hqe : (T != Z) = false := by simpa using hTZ
              have HTZ := Lib.hid hTZ
              clear hTZ
              go_wp2_with (refine wl_neq_tile rfl rfl rfl t1 t2 ?_; rw [hqe])
              go_roundw
              case rel => exact ⟨k + 1, by omega, by go_num, by rw [HT1.out, HT2.out, HE.out, HTZ.out], hB3⟩
              case measure => simp only [intOf]; omega
            · have hqe : (T != Z) = true := by simpa using hTZ
              have hne := HN.out hTZ
              clear hTZ
              go_wp2_with (refine wl_neq_tile rfl rfl rfl t1 t2 ?_; rw [hqe])
              go_ret
              exact ⟨by simp [hne], Below.up hB2 hB3⟩
          · obtain rfl : k = L.length := by omega
            have : L = M := by rw [List.take_length, List.take_of_length_le (by have := HL.out; omega)] at heq; exact heq
            have HT := Lib.hid this
            clear this heq
            go_wp2
            go_ret
            exact ⟨by rw [HT.out]; simp, Below.up hB2 hB⟩
      · have q1 : (x != x') = false := by simpa using h1
        have q2 : (y != y') = false := by simpa using h2
        have q3 : ((L.length : Int) != (M.length : Int)) = true := by simpa using (by omega : ¬ (L.length : Int) = (M.length : Int))
        have e : decide (x = x' ∧ y = y' ∧ L = M) = false := by
          have : ¬ L = M := fun h => h3 (by rw [h])
          simp [this]
        rw [e]
        clear e h1 h2 h3
        go_enter Tryz.func65, Tryz.ntmps65
        go_wp2
        go_ret
        exact ⟨rfl, hB2⟩
    · have q1 : (x != x') = false := by simpa using h1
      have q2 : (y != y') = true := by simpa using h2
      have e : decide (x = x' ∧ y = y' ∧ L = M) = false := by simp [h2]
      rw [e]
      clear e h1 h2
      go_enter Tryz.func65, Tryz.ntmps65
      go_wp2
      go_ret
      exact ⟨rfl, hB2⟩
  · have q1 : (x != x') = true := by simpa using h1
    have e : decide (x = x' ∧ y = y' ∧ L = M) = false := by simp [h1]
    rw [e]
    clear e h1
    go_enter Tryz.func65, Tryz.ntmps65
    go_wp2
    go_ret
    exact ⟨rfl, hB2⟩
end Go.Proofs.YtkjpcjccddggoaaGreat

namespace Go.Proofs.YtkjpcjccddggoaaGreat
open Go.RowKit
set_option maxRecDepth 10000
set_option maxHeartbeats 4000000
abbrev tlD (T : List Col) : List D := (tcells T).toList.map .lit
theorem tlD_len {T : List Col} (h : T.length = 64) : (tlD T).length = 256 := by
  rw [List.length_map, Array.length_toList, tcells_size, h]
instance dls_lits : ∀ (l : List Value), DLs (l.map .lit) (l.map .lit)
  | [] => inferInstanceAs (DLs [] [])
  | x :: l => by
    have := dls_lits l
    exact inferInstanceAs (DLs (.lit x :: l.map .lit) (.lit x :: l.map .lit))
instance dlss_tl (L : List (List Col)) : DLss (L.map tlD) (L.map tlD) := dlss_map L _ _ (fun _ => inferInstance) (fun _ => rfl)
/-- a canvas -/
structure Cv where
  x : Int
  y : Int
  L : List (List Col)
deriving DecidableEq
abbrev cvD (c : Cv) : List D := [i64D c.x, i64D c.y, .sl false false (c.L.map tlD)]
def cvB (c : Cv) : Bool := canOk c.x c.y c.L.length
section
variable {B : Nat} {U : Nat → Prop} {w : World}
theorem tiles_of {c f : Bool} {L : List (List Col)} {u : Value} (h64 : All64 L) (h : drep B U w (.sl c f (L.map tlD)) u) : Tiles w u L := ⟨h64, isSl_of (fun T => (tcells T).toList) h⟩
theorem cv_of {c : Cv} {u : Value} (h64 : All64 c.L) (h : drep B U w (.agg (cvD c)) u) : ∃ v, u = canV c.x c.y v ∧ Tiles w v c.L := by
  simp only [drep, dreps] at h
  obtain ⟨_, rfl, _, _, rfl, rfl, _, _, rfl, rfl, v, _, rfl, h, rfl⟩ := h
  exact ⟨v, rfl, tiles_of h64 (by simp only [drep]; exact h)⟩
theorem own_tiles {L : List (List Col)} {v : Value} (h : OwnT B w v L) (hU : ∀ b, B ≤ b → U b) : drep B U w (.sl false true (L.map tlD)) v := by
  refine ownsRow_sl (sz := 256) (e := 109) (drepss_lits_mk (fun T => (tcells T).toList) L) (fun x hx => ?_) (one_tlc L) (by rw [List.length_map]; exact ownsRow_base h.2 (Nat.zero_le _)) (fun _ b hb => (h.2.lt b hb).1) fun b hb => hU b (h.2.lt b hb).1
  obtain ⟨y, hy, rfl⟩ := List.mem_map.1 hx
  exact tlD_len (h.1 y hy)
theorem fm_vb : ∀ b : List UInt8, b.flatMap (fun x => [vb x]) = b.map vb
  | [] => rfl
  | x :: b => by rw [List.flatMap_cons, fm_vb b]; rfl
theorem bytes_of {c f : Bool} {b : List UInt8} {u : Value} (h : drep B U w (.sl c f (byD b)) u) : Bytes w u b := by
  have := isSl_of (fun x : UInt8 => [vb x]) h
  rwa [fm_vb] at this
theorem own_bytes {b : List UInt8} {v : Value} (h : OwnB B w v b) (hU : ∀ b, B ≤ b → U b) : drep B U w (.sl false true (byD b)) v := by
  have e := fm_vb b
  refine own_sl (fun x : UInt8 => [vb x]) (fun _ => rfl) (by rw [e]; exact h) (by rw [e]; exact one_bytes b) hU
end
theorem cv_arg {B : Nat} {U : Nat → Prop} {w : World} {c : Cv} {us : List Value} (h64 : All64 c.L) (h : dreps B U w [.agg (cvD c)] us) : ∃ v, us = [canV c.x c.y v] ∧ Tiles w v c.L := by
  simp only [dreps] at h
  obtain ⟨u, _, rfl, h, rfl⟩ := h
  obtain ⟨v, rfl, hv⟩ := cv_of h64 h
  exact ⟨v, rfl, hv⟩
theorem ccheck_v (c : Cv) (h : All64 c.L) : VP Tryz.prog 62 [.agg (cvD c)] (· = .ret (i64D (if cvB c then 0 else 150))) := by
  refine vp_bridge (callFunc_run Tryz.func62 (by kernel_rfl) rfl) fun U w us hu => ?_
  obtain ⟨v, rfl, hv⟩ := cv_arg h hu
  refine (check_any c.x c.y v c.L w hv).mono ?_
  rintro e w' ⟨rfl, hb⟩
  exact ⟨hb, _, rfl, by simp only [drep, cvB]; rfl⟩
theorem rsame05_v (c d : Cv) (h : All64 c.L) (h' : All64 d.L) (hl : c.L.length ≤ 1000000) : VP Tryz.prog 65 [.agg (cvD c), .agg (cvD d)] (· = .ret (.lit (.bool (decide (c = d))))) := by
  refine vp_bridge (callFunc_run Tryz.func65 (by kernel_rfl) rfl) fun U w us hu => ?_
  simp only [dreps] at hu
  obtain ⟨u, _, rfl, h1, u', _, rfl, h2, rfl⟩ := hu
  obtain ⟨v, rfl, hv⟩ := cv_of h h1
  obtain ⟨v', rfl, hv'⟩ := cv_of h' h2
  refine (same_any c.x c.y d.x d.y v v' c.L d.L w hv hv' hl).mono ?_
  rintro e w' ⟨rfl, hb⟩
  refine ⟨hb, _, rfl, ?_⟩
  obtain ⟨x, y, L⟩ := c
  obtain ⟨x', y', L'⟩ := d
  simp only [drep, Cv.mk.injEq]
theorem equalT_v (L M : List (List Col)) (h : All64 L) (h' : All64 M) : VP Tryz.prog 99 [.sl false false (L.map tlD), .sl false false (M.map tlD)] (· = .ret (.lit (.bool (decide (L = M))))) := by
  refine vp_bridge (callFunc_run Tryz.func99 (by kernel_rfl) rfl) fun U w us hu => ?_
  simp only [dreps] at hu
  obtain ⟨u, _, rfl, h1, u', _, rfl, h2, rfl⟩ := hu
  refine (equal_tiles u u' L M w (tiles_of h h1) (tiles_of h' h2)).mono ?_
  rintro e w' ⟨rfl, hb⟩
  exact ⟨hb, _, rfl, by simp only [drep]⟩
theorem cloneT_v (L : List (List Col)) (h : All64 L) (hl : L.length ≤ 1000) : VP Tryz.prog 59 [.sl false false (L.map tlD)] (· = .ret (.sl false true (L.map tlD))) := by
  refine vp_bridge (callFunc_run Tryz.func59 (by kernel_rfl) rfl) fun U w us hu => ?_
  simp only [dreps] at hu
  obtain ⟨u, _, rfl, h1, rfl⟩ := hu
  refine (clone_tiles u L w (tiles_of h h1) hl).mono ?_
  rintro e w' ⟨v', rfl, ho, hb⟩
  exact ⟨hb, _, rfl, own_tiles ho fun _ => .inr⟩
theorem canvas_v (c : Cv) (h : All64 c.L) (hl : c.L.length ≤ 1000) : VP Tryz.prog 71 [.agg (cvD c)] (· = .ret (.tup [.sl false true (byD (if cvB c then canvasB c.x.toNat c.y.toNat c.L else [])), i64D (if cvB c then 0 else 150)])) := by
  refine vp_bridge (callFunc_run Tryz.func71 (by kernel_rfl) rfl) fun U w us hu => ?_
  obtain ⟨v, rfl, hv⟩ := cv_arg h hu
  refine (canvas_any c.x c.y v c.L w hv hl).mono ?_
  rintro e w' ⟨v', rfl, ho, hb⟩
  refine ⟨hb, _, rfl, ?_⟩
  simp only [drep, dreps]
  have := own_bytes ho (U := fun b => U b ∨ w.heap.size ≤ b) fun _ => .inr
  simp only [drep] at this
  exact ⟨_, rfl, _, _, rfl, this, _, _, rfl, rfl, rfl⟩
end Go.Proofs.YtkjpcjccddggoaaGreat
