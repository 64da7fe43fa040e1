/- gessolaw10.wakes: its walk. -/
import Derived.Test.YtneajhldmecllaaWakes
namespace Go.Proofs.Ytneajhldmecllaa
open Go.RowKit

theorem slice_at {w : World} {v : Value} {L : List (List Col)} (h : Tiles w v L) {n : Nat} (hn : L.length = n) : ∃ a c, v = .slice a n c := by
  subst hn
  obtain ⟨a, c, e, _⟩ := h.slice
  exact ⟨a, c, e⟩

structure WkInv (w W : World) (p3 : Nat) (v : Value) : Prop where
  bel : Below w.heap.size w W
  b1 : Blk W w.heap.size (tcells noTile) 29
  b2 : Blk W (w.heap.size + 1) (tcells spotT) 29
  b3 : Blk W p3 #[.int .i64 2, .int .i64 1, v] 43
  ts : Tiles W v [noTile, noTile]
theorem WkInv.below {w W W' : World} {p3 : Nat} {v : Value} (h : WkInv w W p3 v) (hb : Below W.heap.size W W') : WkInv w W' p3 v :=
  ⟨h.bel.trans (hb.mono h.bel.size), h.b1.below hb h.b1.lt, h.b2.below hb h.b2.lt, h.b3.below hb h.b3.lt, h.ts.below hb⟩

set_option maxRecDepth 100000 in
set_option maxHeartbeats 2000000 in
theorem wakes_any (w : World) : Calls Try.prog 8 #[] w fun e w' => e = .returned (.bool true) ∧ Below w.heap.size w w' := by
  go_enter Try.func8, Try.ntmps8
  go_upto_region 3 with (first | refine wl_build_tile rfl ?_ | refine wl_alloc_tile rfl ?_ | refine wl_store_tile_new rfl rfl rfl (by simp) (by rfl) noTile_len ?_ | refine wl_load_tile rfl rfl noTile_len (Blk.new _ _ _).tileAt ?_)
  refine gen_code (fun W => Below w.heap.size w W ∧ Blk W w.heap.size (tcells noTile) 29 ∧ Blk W (w.heap.size + 1) (tcells noTile) 29) ⟨by repeat (first | assumption | exact Below.refl _ _ | refine below_dN ?_ _ | refine Below.alloc ?_ (by first | exact Nat.le_refl _ | omega | (simp; done) | (simp; omega)) _ | refine Below.setCell ?_ (by first | exact Nat.le_refl _ | omega | (simp; done) | (simp; omega)) _ | refine Below.drew ?_ | refine Below.trans ?_ (Below.mono (by assumption) (by first | exact Nat.le_refl _ | omega | (simp; done) | (simp; omega)))), (Blk.new _ _ _).alloc _, by have := Blk.new (w.alloc (.cells (tcells noTile) 29)) (tcells noTile) 29; simpa using this⟩ ?_
  rintro W ⟨hB, b1, b2⟩
  obtain ⟨c2, f2, l2⟩ := b2.all
  have e0 : W.cell? ⟨w.heap.size + 1, 0, none⟩ = some (.int .u8 0) := by rw [c2]; rfl
  have e1 : W.cell? ⟨w.heap.size + 1, 1, none⟩ = some (.int .u8 0) := by rw [c2]; rfl
  have e2 : W.cell? ⟨w.heap.size + 1, 2, none⟩ = some (.int .u8 0) := by rw [c2]; rfl
  have e3 : W.cell? ⟨w.heap.size + 1, 3, none⟩ = some (.int .u8 0) := by rw [c2]; rfl
  clear c2
  go_upto_region 4 with fail
  clear e0 e1 e2 e3
  refine gen_code (fun W => Below w.heap.size w W ∧ Blk W w.heap.size (tcells noTile) 29 ∧ Blk W (w.heap.size + 1) (tcells spotT) 29) ⟨by repeat (first | assumption | exact Below.refl _ _ | refine below_dN ?_ _ | refine Below.alloc ?_ (by first | exact Nat.le_refl _ | omega | (simp; done) | (simp; omega)) _ | refine Below.setCell ?_ (by first | exact Nat.le_refl _ | omega | (simp; done) | (simp; omega)) _ | refine Below.drew ?_ | refine Below.trans ?_ (Below.mono (by assumption) (by first | exact Nat.le_refl _ | omega | (simp; done) | (simp; omega)))), (((b1.other _ _ (by simp)).other _ _ (by simp)).other _ _ (by simp)).other _ _ (by simp), by
    have := (((b2.set 0 (vb 255)).set 1 (vb 0)).set 2 (vb 0)).set 3 (vb 255)
    rw [show ((((tcells noTile).setIfInBounds 0 (vb 255)).setIfInBounds 1 (vb 0)).setIfInBounds 2 (vb 0)).setIfInBounds 3 (vb 255) = tcells spotT from by kernel_rfl] at this
    exact this⟩ ?_
  clear hB b1 b2 f2 l2 W
  rintro W ⟨hB, b1, b2⟩
  go_upto_region 5 with (first | refine wl_load_tile rfl rfl noTile_len b1.tileAt ?_ | (refine wl_buildSlice_tiles2 rfl rfl rfl noTile_len noTile_len ?_; intro w1 v1 hb1 ht1; obtain ⟨a1, n1, rfl⟩ := slice_at ht1 (n := 2) rfl))
  have hs : w.heap.size + 2 ≤ W.heap.size := b2.lt
  have hs1 := hb1.size
  have hs2 : w.heap.size + 2 ≤ w1.heap.size := by omega
  refine gen_code (fun W => WkInv w W w1.heap.size (.slice a1 2 n1)) ⟨(hB.trans (hb1.mono (by omega))).alloc (by omega) _, (b1.below hb1 b1.lt).alloc _, (b2.below hb1 b2.lt).alloc _, Blk.new _ _ _, ht1.below ((Below.refl _ _).alloc (Nat.le_refl _) _)⟩ ?_
  clear hB b1 b2 hs hs1 hb1 ht1
  clear W
  obtain ⟨p3, hp3⟩ : ∃ p3, w1.heap.size = p3 := ⟨_, rfl⟩
  rw [hp3] at hs2 ⊢
  clear hp3 w1
  intro W5 I5
  obtain ⟨c3, f3, l3⟩ := I5.b3.all
  go_upto_region 6 with (go_at_call 19; refine (w_canvas1 _ _ I5.ts).mono ?_; rintro e w' ⟨v4, rfl, hv4, hb⟩)
  refine gen_code (fun W => WkInv w W p3 (.slice a1 2 n1) ∧ Bytes W v4 [2, 1, 0, 0]) ⟨I5.below hb, hv4⟩ ?_
  clear c3 f3 l3 hb hv4 I5
  clear W5
  rintro W6 ⟨I6, h4⟩
  go_upto_region 7 with (first | refine wl_load_tile rfl rfl spotT_len I6.b2.tileAt ?_ | (refine wl_buildSlice_tiles1 rfl rfl spotT_len ?_; intro w1 v1 hb1 ht1; obtain ⟨a2, n2, rfl⟩ := slice_at ht1 (n := 1) rfl) | (go_at_call 19; refine (w_canvas2 _ _ ht1).mono ?_; rintro e w' ⟨v6, rfl, hv6, hb⟩))
  refine gen_code (fun W => WkInv w W p3 (.slice a1 2 n1) ∧ Bytes W v4 [2, 1, 0, 0] ∧ Bytes W v6 [1, 1, 1, 255, 0, 0, 255, 63, 0, 0, 0, 0]) ⟨(I6.below hb1).below hb, (h4.below hb1).below hb, hv6⟩ ?_
  clear hb1 hb hv6 h4 I6 ht1
  clear W6
  rintro W7 ⟨I7, h4, h6⟩
  go_upto_region 8 with (first | (go_at_call 14; refine (w_readtile _ _ (bytes_new W7 _ _ _ _ 10 rfl rfl rfl (by decide))).mono ?_; rintro e w' ⟨rfl, hb⟩) | refine wl_alloc_tile rfl ?_ | refine wl_store_tile_new rfl rfl rfl rfl (by rfl) noTile_len ?_)
  have k7 : Below W7.heap.size W7 (w'.alloc (.cells (tcells noTile) 29)) := (((Below.refl _ _).alloc (Nat.le_refl _) _).trans (hb.mono (by simp))).alloc (by have := hb.size; simp at this; omega) _
  refine gen_code (fun W => WkInv w W p3 (.slice a1 2 n1) ∧ Bytes W v4 [2, 1, 0, 0] ∧ Bytes W v6 [1, 1, 1, 255, 0, 0, 255, 63, 0, 0, 0, 0]) ⟨I7.below k7, h4.below k7, h6.below k7⟩ ?_
  clear k7 hb h4 h6 I7
  rintro W8 ⟨I8, h4, h6⟩
  go_upto_region 9 with (first | (go_at_call 20; refine (w_readcan1 _ _ (bytes_new W8 _ _ _ _ 4 rfl rfl rfl (by decide))).mono ?_; rintro e w8 ⟨a8, n8, m8, rfl, hb⟩))
  have k8 : Below W8.heap.size W8 (w8.alloc (.cells #[.int .i64 1, .int .i64 1, .slice a8 n8 m8] 43)) := (((Below.refl _ _).alloc (Nat.le_refl _) _).trans (hb.mono (by simp))).alloc (by have := hb.size; simp at this; omega) _
  refine gen_code (fun W => WkInv w W p3 (.slice a1 2 n1) ∧ Bytes W v4 [2, 1, 0, 0] ∧ Bytes W v6 [1, 1, 1, 255, 0, 0, 255, 63, 0, 0, 0, 0]) ⟨I8.below k8, h4.below k8, h6.below k8⟩ ?_
  clear k8 hb h4 h6 I8
  rintro W9 ⟨I9, h4, h6⟩
  go_upto_region 10 with (first | (go_at_call 20; refine (w_readcan2 _ _ (bytes_new W9 _ _ _ _ 7 rfl rfl rfl (by decide))).mono ?_; rintro e w9 ⟨rfl, hb⟩))
  have k9 : Below W9.heap.size W9 (w9.alloc (.cells #[.int .i64 0, .int .i64 0, .slice none 0 0] 43)) := (((Below.refl _ _).alloc (Nat.le_refl _) _).trans (hb.mono (by simp))).alloc (by have := hb.size; simp at this; omega) _
  refine gen_code (fun W => WkInv w W p3 (.slice a1 2 n1) ∧ Bytes W v4 [2, 1, 0, 0] ∧ Bytes W v6 [1, 1, 1, 255, 0, 0, 255, 63, 0, 0, 0, 0]) ⟨I9.below k9, h4.below k9, h6.below k9⟩ ?_
  clear k9 hb h4 h6 I9
  rintro W10 ⟨I10, h4, h6⟩
  obtain ⟨c3, f3, l3⟩ := I10.b3.all
  go_upto_region 11 with (first | (go_at_call 23; refine (w_patch _ _ I10.ts).mono ?_; rintro e w10 ⟨v17, rfl, h17, hb⟩))
  refine gen_code (fun W => WkInv w W p3 (.slice a1 2 n1) ∧ Bytes W v4 [2, 1, 0, 0] ∧ Bytes W v6 [1, 1, 1, 255, 0, 0, 255, 63, 0, 0, 0, 0] ∧ Bytes W v17 [2, 1, 0, 0]) ⟨I10.below hb, h4.below hb, h6.below hb, h17⟩ ?_
  clear c3 f3 l3 hb h4 h6 I10 h17
  rintro W11 ⟨I11, h4, h6, h17⟩
  go_wp2_with (refine wl_load_tile rfl rfl noTile_len I11.b1.tileAt ?_)
  refine (w_tile _).mono ?_
  rintro e w12 ⟨v12, rfl, h12, K12⟩
  go_wp2_with fail
  have A13 := (Below.refl w12.heap.size w12).alloc (Nat.le_refl _)
  refine (w_equal _ _ _ _ (h12.below (A13 _)) (bytes_new w12 _ _ _ _ 5 rfl rfl rfl (by decide))).mono ?_
  rintro e w13 ⟨rfl, hb13⟩
  have K13 := Below.trans (K12.alloc K12.size _) (hb13.mono (by have := K12.size; simp; omega))
  clear A13 hb13
  go_wp2_with fail
  refine (w_equal _ _ _ _ (h4.below (K13.alloc K13.size _)) (bytes_new w13 _ _ _ _ 4 rfl rfl rfl (by decide))).mono ?_
  rintro e w14 ⟨rfl, hb14⟩
  have K14 := Below.trans (K13.alloc K13.size _) (hb14.mono (by have := K13.size; simp; omega))
  clear hb14
  go_wp2_with fail
  refine (w_equal _ _ _ _ (h6.below (K14.alloc K14.size _)) (bytes_new w14 _ _ _ _ 12 rfl rfl rfl (by decide))).mono ?_
  rintro e w15 ⟨rfl, hb15⟩
  have K15 := Below.trans (K14.alloc K14.size _) (hb15.mono (by have := K14.size; simp; omega))
  clear hb15
  go_wp2_with fail
  refine (w_equal _ _ _ _ (h17.below (K15.alloc K15.size _)) (bytes_new w15 _ _ _ _ 4 rfl rfl rfl (by decide))).mono ?_
  rintro e w16 ⟨rfl, hb16⟩
  have K16 := Below.trans (K15.alloc K15.size _) (hb16.mono (by have := K15.size; simp; omega))
  clear hb16
  have I16 := I11.below K16
  go_wp2_with (first | refine wl_load_tile rfl rfl noTile_len I16.b1.tileAt ?_ | refine wl_load_tile rfl rfl spotT_len I16.b2.tileAt ?_ | (refine wl_buildSlice_tiles2 rfl rfl rfl noTile_len spotT_len ?_; intro w17 v1 hb17 ht17))
  refine (w_size _ _ ht17).mono ?_
  rintro e w18 ⟨rfl, hb18⟩
  go_wp2
  go_ret
  exact ⟨rfl, ((I16.below hb17).below hb18).bel⟩

end Go.Proofs.Ytneajhldmecllaa
