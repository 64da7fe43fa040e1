/- gessoref10: ahead, Canvas, Patch; gessoref05.Same. -/
import Derived.Test.YtneajhldmecllaaCanStore
import Derived.Test.YtneajhldmecllaaRGW
namespace Go.Proofs.Ytneajhldmecllaa
open Go.RowKit

set_option maxRecDepth 100000 in
set_option maxHeartbeats 1000000 in
theorem refahead_any (x y : Int) (v : Value) (L : List (List Col)) (i : Nat) (w : World) (hL : Tiles w v L) (hi : i ≤ L.length) (hl : L.length ≤ 1000) :
    Calls Try.prog 51 #[canV x y v, .int .i64 i] w fun e w' => e = .returned (tileV (aheadZ L i)) ∧ Below w.heap.size w w' := by
  obtain ⟨a1, c1, rfl, hc1, hm1⟩ := hL.slice
  have n0 := Blk.new (w.alloc (.cells #[.int .i64 x, .int .i64 y, .slice a1 L.length c1] 43)) (tcells noTile) 29
  simp only [World.size_alloc] at n0
  have hcc := ((Blk.new w #[.int .i64 x, .int .i64 y, .slice a1 L.length c1] 43).alloc (.cells (tcells noTile) 29)).cell 2
  simp only [List.getElem?_toArray, List.getElem?_cons_succ, List.getElem?_cons_zero] at hcc
  by_cases h0 : i = 0
  · subst h0
    have e : aheadZ L 0 = noTile := rfl
    rw [e]
    go_enter Try.func51, Try.ntmps51
    go_wp2_with (first | refine wl_alloc_tile rfl ?_ | refine wl_build_tile rfl ?_ | refine wl_store_tile rfl rfl rfl n0 (by rfl) noTile_len ?_)
    refine bodyPost_ret (results_tile1 (p := 4) (by kernel_rfl) _ _ (w.heap.size + 1) noTile noTile_len rfl (Blk.tileAt (b := w.heap.size + 1) (t := 29) (n0.setRow))) rfl ?_
    exact ⟨rfl, below_row (by (repeat (first | assumption | exact Below.refl _ _ | refine below_dN ?_ _ | refine Below.alloc ?_ (by first | exact Nat.le_refl _ | omega | (simp; done) | (simp; omega)) _ | refine Below.setCell ?_ (by first | exact Nat.le_refl _ | omega | (simp; done) | (simp; omega)) _ | refine Below.drew ?_ | refine Below.trans ?_ (Below.mono (by assumption) (by first | exact Nat.le_refl _ | omega | (simp; done) | (simp; omega)))))) _ (by omega) _⟩
  · obtain ⟨k, rfl⟩ : ∃ k, i = k + 1 := ⟨i - 1, by omega⟩
    obtain ⟨b1, o1, rfl, e1, x1⟩ := hL.get k (by omega)
    have hw : IntKind.i64.wrap (((k + 1 : Nat) : Int) - 1) = (k : Int) := wr64 _ _ (by omega) (by omega)
    have hq0 : ((((k + 1 : Nat) : Int)) == 0) = false := by simp; omega
    have hkl : (k : Int) < L.length := by omega
    have t1 : L[k].length = 64 := hL.1 _ (by simp)
    have e : aheadZ L (k + 1) = L[k] := by unfold aheadZ; rw [if_neg h0, Nat.add_sub_cancel, List.getD_eq_getElem?_getD, List.getElem?_eq_getElem (by omega)]; rfl
    have e1' := (e1.below (Below.new w (.cells #[.int .i64 x, .int .i64 y, .slice (some ⟨b1, o1, none⟩) L.length c1] 43)) x1).below (Below.new _ (.cells (tcells noTile) 29)) (by simp; omega)
    rw [e]
    clear e h0 e1
    go_enter Try.func51, Try.ntmps51
    go_wp2_with (first | refine wl_alloc_tile rfl ?_ | refine wl_load_tile rfl rfl t1 e1' ?_ | refine wl_store_tile rfl rfl rfl n0 (by rfl) t1 ?_)
    refine bodyPost_ret (results_tile1 (p := 4) (by kernel_rfl) _ _ (w.heap.size + 1) L[k] t1 rfl (Blk.tileAt (b := w.heap.size + 1) (t := 29) (n0.setRow))) rfl ?_
    exact ⟨rfl, below_row (by (repeat (first | assumption | exact Below.refl _ _ | refine below_dN ?_ _ | refine Below.alloc ?_ (by first | exact Nat.le_refl _ | omega | (simp; done) | (simp; omega)) _ | refine Below.setCell ?_ (by first | exact Nat.le_refl _ | omega | (simp; done) | (simp; omega)) _ | refine Below.drew ?_ | refine Below.trans ?_ (Below.mono (by assumption) (by first | exact Nat.le_refl _ | omega | (simp; done) | (simp; omega)))))) _ (by omega) _⟩

set_option maxRecDepth 100000 in
set_option maxHeartbeats 2000000 in
theorem refcanvas_any (x y : Nat) (v : Value) (L : List (List Col)) (w : World) (hx : x ≤ 4) (hy : y ≤ 4) (hL : Tiles w v L) (hl : L.length ≤ 1000) :
    Calls Try.prog 24 #[canV x y v] w fun e w' => ∃ v', e = .returned v' ∧ OwnB w.heap.size w' v' (canvasB x y L) ∧ Below w.heap.size w w' := by
  obtain ⟨a1, c1, rfl, hc1, hm1⟩ := hL.slice
  have hx' : IntKind.u8.wrap (x : Int) = x := by show ((x : Int) % 256) = x; omega
  have hy' : IntKind.u8.wrap (y : Int) = y := by show ((y : Int) % 256) = y; omega
  have k0 := Blk.new w #[.int .i64 x, .int .i64 y, .slice a1 L.length c1] 43
  have hB1 := Below.new w (.cells #[.int .i64 x, .int .i64 y, .slice a1 L.length c1] 43)
  have hown : OwnB (w.heap.size + 1) ((w.alloc (.cells #[.int .i64 x, .int .i64 y, .slice a1 L.length c1] 43)).alloc (.cells #[.int .u8 x, .int .u8 y] 5)) (.slice (some ⟨w.heap.size + 1, 0, none⟩) 2 2) (headB x y) := by
    have h := World.ownsRow_lit (base := w.heap.size + 1) (e := 5) (size := 1) (w.alloc (.cells #[.int .i64 x, .int .i64 y, .slice a1 L.length c1] 43)) #[.int .u8 x, .int .u8 y] 2 (by simp) (by decide) rfl
    unfold OwnB headB
    simpa [← u8_small x hx, ← u8_small y hy] using h
  have HX := Lib.hid hx'
  have hT2 := (hL.below hB1).below (Below.new _ (.cells #[.int .u8 x, .int .u8 y] 5))
  have hB2 := Below.upA hB1 (.cells #[.int .u8 x, .int .u8 y] 5)
  have k2 := k0.alloc (.cells #[.int .u8 x, .int .u8 y] 5)
  have hs2 : ((w.alloc (.cells #[.int .i64 x, .int .i64 y, .slice a1 L.length c1] 43)).alloc (.cells #[.int .u8 x, .int .u8 y] 5)).heap.size = w.heap.size + 2 := by simp
  clear HX
  obtain ⟨W2, hW2⟩ : ∃ W2, (w.alloc (.cells #[.int .i64 x, .int .i64 y, .slice a1 L.length c1] 43)).alloc (.cells #[.int .u8 x, .int .u8 y] 5) = W2 := ⟨_, rfl⟩
  rw [hW2] at hown hT2 hB2 k2 hs2
  clear hB1
  obtain ⟨q1, q2, q3⟩ := k2.all
  obtain ⟨q4, q5, q6⟩ := k0.all
  go_enter Try.func24, Try.ntmps24
  go_wp2
  clear hW2 q1 q2 q3 q4 q5 q6 k0
  go_loopw [3, 16] (fun o i wr => ∃ k : Nat, k ≤ L.length ∧ i = .int .i64 k ∧ OwnB (w.heap.size + 1) wr o (headB x y ++ bodyB (aheadZ L) 0 (L.take k)) ∧ Below w.heap.size w wr ∧ Below (w.heap.size + 1) W2 wr)
    (fun _ i _ => L.length - (intOf i).toNat)
  case atStart => exact ⟨0, by omega, rfl, by simpa [bodyB] using hown, hB2, Below.refl _ _⟩
  case round =>
    obtain ⟨k, hk, rfl, ho, hB, hB'⟩ := hrel
    have kw := k2.below hB' (by omega)
    have hTw := hL.below hB
    by_cases hlt : k < L.length
    · have hT64 : L[k].length = 64 := hL.1 _ (by simp)
      have hZ64 : (aheadZ L k).length = 64 := by
        unfold aheadZ
        split
        · exact noTile_len
        · rw [List.getD_eq_getElem?_getD, List.getElem?_eq_getElem (by omega)]; exact hL.1 _ (by simp)
      obtain ⟨b, o', rfl, hT, hb⟩ := hTw.get k hlt
      have hbl := bodyB_len (aheadZ L) (L.take k) (fun T hT => hL.1 T (List.mem_of_mem_take hT)) 0
      have hlk : (L.take k).length ≤ 1000 := by simp; omega
      have hbl2 : (headB x y ++ bodyB (aheadZ L) 0 (L.take k)).length ≤ 400000 := by unfold headB; simp; omega
      have HS : Hid (headB x y ++ bodyB (aheadZ L) 0 (L.take (k + 1)) = (headB x y ++ bodyB (aheadZ L) 0 (L.take k)) ++ stepB L[k] (aheadZ L k)) := by
        refine Lib.hid ?_
        rw [List.take_succ_eq_append_getElem hlt, bodyB_snoc, List.append_assoc, List.length_take, Nat.min_eq_left hk, Nat.zero_add]
      obtain ⟨T, eT⟩ : ∃ T, L[k] = T := ⟨_, rfl⟩
      rw [eT] at hT64 hT HS
      obtain ⟨Z, eZ⟩ : ∃ Z, aheadZ L k = Z := ⟨_, rfl⟩
      rw [eZ] at hZ64 HS
      have HZ := Lib.hid eZ
      clear eT eZ hbl hlk
      obtain ⟨R, hR⟩ : ∃ R, headB x y ++ bodyB (aheadZ L) 0 (L.take k) = R := ⟨_, rfl⟩
      rw [hR] at ho hbl2 HS
      clear hR
      have bT := Blk.new wr (tcells T) 29
      obtain ⟨ao, co, rfl, hco, hmo⟩ := ownsRow_slice ho
      go_wp2_with (first | refine wl_load_tile rfl rfl hT64 hT ?_ | refine wl_alloc_tile rfl ?_ | refine wl_store_tile_new rfl rfl rfl rfl (by rfl) hT64 ?_)
      have hsw := hB.size
      have hsw' := hB'.size
      have ho1 : OwnB (w.heap.size + 1) (wr.alloc (.cells (tcells T) 29)) (.slice ao R.length co) R := ownsRow_below ho (Below.new wr _) (Nat.le_refl _)
      have hB1 := hB.alloc hsw (.cells (tcells T) 29)
      have hB1' := hB'.alloc (by omega) (.cells (tcells T) 29)
      have kw1 := kw.alloc (.cells (tcells T) 29)
      have hs1 : w.heap.size + 1 ≤ (wr.alloc (.cells (tcells T) 29)).heap.size := by simp; omega
      obtain ⟨pT, hpT⟩ : ∃ p, wr.heap.size = p := ⟨_, rfl⟩
      rw [hpT] at bT ⊢
      have hpT1 : w.heap.size + 1 ≤ pT := by omega
      obtain ⟨W3, hW3⟩ : ∃ W3, wr.alloc (.cells (tcells T) 29) = W3 := ⟨_, rfl⟩
      rw [hW3] at bT ho1 hB1 hB1' kw1 hs1 ⊢
      clear hW3 hpT hB hB' kw hTw hT ho hb hsw hsw'
      have tL := hL.below hB1
      refine wp_region_cuts [.q [_, _, _], .e _] [_] rfl (fun w'' => Below W3.heap.size W3 w'') (by kernel_rfl) (by kernel_rfl) (fun _ _ d _ _ h => by cases d <;> exact h) ?_
      refine cut_q (Below.refl _ W3).drew ?_
      repeat (first | go_big_quiet_step ((intros; rfl)) | quiet_step ((intros; rfl)) | (refine wq_load_tile rfl rfl hT64 (fun w'' hC => (Blk.up bT hC).tileAt) ?_; simp only [Act.put, List.setIfInBounds_toArray, List.set_cons_succ, List.set_cons_zero]) | (refine wq_load_blk _ rfl rfl (fun w'' hC => Blk.up kw1 hC) Try.underlying43 rfl (by kernel_rfl) ?_; simp only [Act.put, List.setIfInBounds_toArray, List.set_cons_succ, List.set_cons_zero]) | (refine wq_loadB rfl rfl (by kernel_rfl) (by assumption) ?_; simp only [Act.put, List.setIfInBounds_toArray, List.set_cons_succ, List.set_cons_zero]))
      refine wpQuiet_nil ?_
      refine cut_e ?_
      go_wp2_with fail
      refine (refahead_any x y _ L k _ (tL.below (Below.refl W3.heap.size W3).drew) hk hl).mono ?_
      rintro e W4 ⟨rfl, hB4⟩
      rw [HZ.out]
      have hB34 : Below W3.heap.size W3 W4 := Below.up (Below.refl W3.heap.size W3).drew hB4
      go_wp2
      refine ⟨hB34, ?_⟩
      refine cut_end ?_
      have bT4 := Blk.up bT hB34
      have ho4 : OwnB (w.heap.size + 1) W4 (.slice ao R.length co) R := ownsRow_below ho1 hB34 (Nat.le_refl _)
      have hB4a := hB1.trans (hB34.mono (by omega))
      have hB4b := hB1'.trans (hB34.mono hs1)
      have hs4 := hB34.size
      have hlt' : k + 1 ≤ L.length := hlt
      clear tL bT ho1 hB1 hB1' kw1 HZ hB34 hB4
      by_cases hTZ : T = Z
      · have hqe : (T == Z) = true := by simpa using hTZ
        have HT : Hid (stepB T Z = [0]) := by refine Lib.hid ?_; unfold stepB; rw [if_pos hTZ]
        clear hTZ
        go_wp2_with (first | (refine wl_eql_tile rfl rfl rfl hT64 hZ64 ?_; rw [hqe]) | (refine wl_append_bytes (w.heap.size + 1) rfl rfl rfl (ownsRow_below ho4 (Below.new W4 _) (Nat.le_refl _)) (bytes_new W4 [0] _ _ _ 1 rfl rfl rfl (by decide)) (by simp; omega) (by simp; omega) ?_; intro v5 W5 ho5 hB5))
        go_roundw
        case rel => exact ⟨k + 1, hlt', by go_num, by rw [HS.out, HT.out]; exact ho5, (hB4a.alloc (by omega) _).trans (hB5.mono (by omega)), (hB4b.alloc (by omega) _).trans hB5⟩
        case measure => simp only [intOf]; omega
      · have hqe : (T == Z) = false := by simpa using hTZ
        have HT : Hid (stepB T Z = enc T) := by refine Lib.hid ?_; unfold stepB; rw [if_neg hTZ]
        have hel := enc_len T hT64
        have hrl := runsOf_le T hT64
        clear hTZ
        go_wp2_with (first | (refine wl_eql_tile rfl rfl rfl hT64 hZ64 ?_; rw [hqe]) | refine wl_load_tile rfl rfl hT64 bT4.tileAt ?_)
        refine (rtile_any T hT64 _).mono ?_
        rintro e W5 ⟨v5, rfl, ho5, hB5⟩
        have hs5 := hB5.size
        have ho5' : OwnB (w.heap.size + 1) W5 (.slice ao R.length co) R := ownsRow_below ho4 hB5 (Nat.le_refl _)
        go_wp2_with (refine wl_append_bytes (w.heap.size + 1) rfl rfl rfl ho5' ho5.bytes (by omega) (by omega) ?_; intro v6 W6 ho6 hB6)
        go_roundw
        case rel => exact ⟨k + 1, hlt', by go_num, by rw [HS.out, HT.out]; exact ho6, (hB4a.trans (hB5.mono (by omega))).trans (hB6.mono (by omega)), (hB4b.trans (hB5.mono (by omega))).trans hB6⟩
        case measure => simp only [intOf]; omega
    · obtain rfl : k = L.length := by omega
      go_wp2
      go_ret
      refine ⟨_, rfl, ?_, hB⟩
      rw [List.take_length] at ho
      exact ownsRow_base ho (by omega)

end Go.Proofs.Ytneajhldmecllaa
