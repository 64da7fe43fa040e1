/- gessolaw10.RunsTiles: its walk. -/
import Derived.Test.YtneajhldmecllaaWakesB
import Derived.Test.YtneajhldmecllaaRunsRefTile
import Derived.Test.YtneajhldmecllaaRunsRefRead
import Derived.Test.YtneajhldmecllaaPlus
namespace Go.Proofs.Ytneajhldmecllaa
open Go.RowKit

theorem tlc_take (L : List (List Col)) (k : Nat) : tlc L = tlc (L.take k) ++ tlc (L.drop k) := by
  unfold tlc
  rw [← List.flatMap_append, List.take_append_drop]
theorem Tiles.part {w : World} {a : Option Addr} {n c k : Nat} {L : List (List Col)} (h : Tiles w (.slice a n c) L) (hk : k ≤ L.length) : Tiles w (.slice a k c) (L.take k) := by
  obtain ⟨h64, hs⟩ := h
  have e : (L.take k).length = k := by rw [List.length_take]; omega
  have hs' := hs
  obtain ⟨a', c', ee, _⟩ := hs'
  cases ee
  refine ⟨fun T hT => h64 T (List.mem_of_mem_take hT), ?_⟩
  rw [e]
  exact hs.part hk (fun j u hu => by rw [tlc_take L k, List.getElem?_append_left (List.getElem?_eq_some_iff.1 hu).1]; exact hu)

theorem c_tile (T : List Col) (hT : T.length = 64) (w : World) :
    Calls Try.prog 10 #[tileV T] w fun e w' => ∃ a c, e = .returned (.slice a (enc T).length c) ∧ Bytes w' (.slice a (enc T).length c) (enc T) ∧ Below w.heap.size w w' := by
  refine (tile_any T hT w).mono ?_
  rintro e w' ⟨v, rfl, ho, hb⟩
  obtain ⟨a, c, rfl, _⟩ := ownsRow_slice ho
  exact ⟨a, c, rfl, OwnB.bytes (base := w.heap.size) ho, hb⟩

theorem readT_pos (l : List UInt8) (T : List Col) (k : Nat) (h : readTile l = some (T, k)) : 0 < k := by
  unfold readTile at h
  unfold readT at h
  rw [if_neg (by simp)] at h
  split at h
  · split at h
    · obtain ⟨p, _, hp⟩ := Option.map_eq_some_iff.1 h
      cases hp
      omega
    · cases h
  · cases h

set_option maxRecDepth 100000 in
set_option maxHeartbeats 2000000 in
theorem law_tiles (v0 v1 : Value) (L : List (List Col)) (l : List UInt8) (w : World) (h0 : Tiles w v0 L) (h1 : Bytes w v1 l) :
    Calls Try.prog 3 #[v0, v1] w fun e w' => e = .returned (.bool true) ∧ Below w.heap.size w w' := by
  obtain ⟨a0, c0, rfl, hc0, hm0⟩ := h0.slice
  have h1' := h1
  obtain ⟨a1, c1, rfl, hc1, hm1, _⟩ := h1'
  unfold maxLen at hm0 hm1
  go_enter Try.func3, Try.ntmps3
  go_wp2_with fail
  refine (wakes_any _).mono ?_
  rintro e w1 ⟨rfl, hB1⟩
  go_wp2_with (refine wl_min L.length 8 rfl rfl rfl ?_; intro k8 hk1 hk2 hk3)
  refine (clone_tiles _ _ _ ((h0.below hB1).part hk1) (by simp; omega)).mono ?_
  rintro e w2 ⟨v2, rfl, ho2, hB2⟩
  have hl2 : (L.take k8).length ≤ 8 := by simp; omega
  have ht2 := ho2.tiles
  obtain ⟨L8, hL8⟩ : ∃ L8, L.take k8 = L8 := ⟨_, rfl⟩
  rw [hL8] at hl2 ht2
  clear hL8 ho2
  have hB12 := hB1.trans (hB2.mono hB1.size)
  have h12 := h1.below hB12
  clear hB1 hB2 h0 h1
  clear w1
  obtain ⟨a2, c2, rfl, hc2, hm2⟩ := ht2.slice
  go_wp2_with fail
  go_loopw [5, 25] (fun s i wr => ∃ k : Nat, k ≤ L8.length ∧ i = .int .i64 k ∧ s = .int .i64 (sizeOfT (L8.take k)) ∧ Below w2.heap.size w2 wr) (fun _ i _ => L8.length - (intOf i).toNat)
  case atStart => exact ⟨0, by omega, rfl, rfl, Below.refl _ _⟩
  case round =>
    obtain ⟨k, hk, rfl, rfl, hB⟩ := hrel
    have hle := sizeOfT_le (L8.take k) (fun T hT => ht2.1 T (List.mem_of_mem_take hT))
    have hlk : (L8.take k).length ≤ 8 := by simp; omega
    by_cases hlt : k < L8.length
    · have hT64 : L8[k].length = 64 := ht2.1 _ (by simp)
      obtain ⟨b, o, rfl, hT, hb⟩ := ht2.get k hlt
      have hTr := hT.below hB hb
      have HS : Hid (sizeOfT (L8.take (k + 1)) = sizeOfT (L8.take k) + (enc L8[k]).length) := by
        refine Lib.hid ?_
        rw [List.take_succ_eq_append_getElem hlt, sizeOfT_snoc, enc_len _ hT64]
      have hel := enc_len _ hT64
      have hrl := runsOf_le _ hT64
      have hel2 : (enc L8[k]).length ≤ 325 := by omega
      clear hel hrl
      obtain ⟨T, eT⟩ : ∃ T, L8[k] = T := ⟨_, rfl⟩
      rw [eT] at hT64 hTr HS hel2
      clear eT hT
      have bT := Blk.new wr (tcells T) 29
      go_wp2_with (first | refine wl_load_tile rfl rfl hT64 hTr ?_ | refine wl_alloc_tile rfl ?_ | refine wl_store_tile_new rfl rfl rfl rfl (by rfl) hT64 ?_ | refine wl_load_tile rfl rfl hT64 bT.tileAt ?_)
      refine (c_tile T hT64 _).mono ?_
      rintro e w3 ⟨a3, c3, rfl, hb3, hB3⟩
      have bT3 := bT.below hB3 bT.lt
      go_wp2_with (first | refine wl_load_tile rfl rfl hT64 bT3.tileAt ?_)
      refine (rtile_any T hT64 _).mono ?_
      rintro e w4 ⟨v4, rfl, ho4, hB4⟩
      go_wp2_with fail
      refine (w_equal (enc T) _ _ _ (hb3.below hB4) ho4.bytes).mono ?_
      rintro e w5 ⟨rfl, hB5⟩
      have hs3 := hB3.size
      have hs4 := hB4.size
      have hs := hB.size
      simp only [World.size_alloc] at hs3 hB3
      have hB' : Below w2.heap.size w2 w5 := (((hB.alloc hs _).trans (hB3.mono (by omega))).trans (hB4.mono (by omega))).trans (hB5.mono (by omega))
      go_wp2
      go_roundw
      case rel => exact ⟨k + 1, by omega, by go_num, by rw [HS.out]; go_num, hB'⟩
      case measure => simp [intOf]; omega
    · obtain rfl : k = L8.length := by omega
      go_wp2_with (refine wl_min l.length 700 rfl rfl rfl ?_; intro k9 hk1 hk2 hk3)
      have h1r := h12.below hB
      refine (clone_bytes _ _ _ (h1r.part hk1) (by simp; omega)).mono ?_
      rintro e w3 ⟨v3, rfl, ho3, hB3⟩
      obtain ⟨B, eB⟩ : ∃ B, l.take k9 = B := ⟨_, rfl⟩
      have hBl : B.length ≤ l.length := by rw [← eB]; simp; omega
      have hpre : l.take B.length = B := by rw [← eB, List.length_take, List.take_eq_take_iff]; omega
      have h1B := h1r.part hBl
      rw [hpre] at h1B
      rw [eB] at ho3
      clear eB hpre hk1 hk2 hk3 h1r h12 hlt hlk
      obtain ⟨a3, c3, rfl, hc3, hm3⟩ := ownsRow_slice ho3
      have h3 := ho3.bytes
      have hpos := readT_pos B
      go_wp2_with fail
      have hc := readtile_any (.slice a3 B.length c3) B w3 h3
      have hrf := fun W hW => refread_any (.slice a3 B.length c3) B W hW
      have hBB := Below.up hB hB3
      have h13 := h1B.below hB3
      clear hB hB3 h1B
      cases hr : readTile B with
      | none =>
        clear hpos
        refine hc.mono ?_
        rintro e w4 ⟨hB4, he⟩
        rw [hr] at he hrf
        change e = .returned (.tuple #[tileV noTile, .int .i64 0, .int .i64 200]) at he
        subst he
        have bN := Blk.new w4 (tcells noTile) 29
        have k4 := Below.upA hB4 (.cells (tcells noTile) 29)
        go_wp2_with (first | refine wl_alloc_tile rfl ?_ | refine wl_store_tile_new rfl rfl rfl rfl (by rfl) noTile_len ?_)
        refine (hrf _ (h3.below k4)).mono ?_
        rintro e w5 ⟨hB5, he⟩
        change e = .returned (.tuple #[tileV noTile, .int .i64 0]) at he
        subst he
        clear hrf hc
        have k5 := Below.upA (Below.up k4 hB5) (.cells (tcells noTile) 29)
        have bN5 := (bN.up hB5).alloc (.cells (tcells noTile) 29)
        have bM5 := Blk.new w5 (tcells noTile) 29
        go_wp2_with (first | refine wl_alloc_tile rfl ?_ | refine wl_store_tile_new rfl rfl rfl rfl (by rfl) noTile_len ?_)
        refine (size_any _ _ _ (ht2.below (Below.up hBB k5)) (by omega)).mono ?_
        rintro e w6 ⟨rfl, hB6⟩
        have bN6 := bN5.up hB6
        have bM6 := bM5.up hB6
        have k6 := Below.up k5 hB6
        go_wp2_with (first | refine wl_load_tile rfl rfl noTile_len bN6.tileAt ?_ | refine wl_load_tile rfl rfl noTile_len bM6.tileAt ?_ | refine wl_eql_tile rfl rfl rfl noTile_len noTile_len ?_)
        refine (w_equal B _ _ _ (h3.below k6) (h13.below k6)).mono ?_
        rintro e w7 ⟨rfl, hB7⟩
        go_wp2
        go_ret
        exact ⟨rfl, Below.up hB12 (Below.up (Below.up hBB k6) hB7)⟩
      | some p =>
        obtain ⟨T, k⟩ := p
        have hT64 := readT_len _ _ _ _ hr
        have hk0 := hpos T k hr
        clear hpos
        refine hc.mono ?_
        rintro e w4 ⟨hB4, he⟩
        rw [hr] at he hrf
        change e = .returned (.tuple #[tileV T, .int .i64 k, .int .i64 0]) at he
        subst he
        have bN := Blk.new w4 (tcells T) 29
        have k4 := Below.upA hB4 (.cells (tcells T) 29)
        have HR := Lib.hid hr
        clear hr
        go_wp2_with (first | refine wl_alloc_tile rfl ?_ | refine wl_store_tile_new rfl rfl rfl rfl (by rfl) hT64 ?_)
        refine (hrf _ (h3.below k4)).mono ?_
        rintro e w5 ⟨hB5, he⟩
        change e = .returned (.tuple #[tileV T, .int .i64 k]) at he
        subst he
        clear hrf hc
        have k5 := Below.upA (Below.up k4 hB5) (.cells (tcells T) 29)
        have bN5 := (bN.up hB5).alloc (.cells (tcells T) 29)
        have bM5 := Blk.new w5 (tcells T) 29
        go_wp2_with (first | refine wl_alloc_tile rfl ?_ | refine wl_store_tile_new rfl rfl rfl rfl (by rfl) hT64 ?_)
        refine (size_any _ _ _ (ht2.below (Below.up hBB k5)) (by omega)).mono ?_
        rintro e w6 ⟨rfl, hB6⟩
        have bN6 := bN5.up hB6
        have bM6 := bM5.up hB6
        have k6 := Below.up k5 hB6
        go_wp2_with (first | refine wl_load_tile rfl rfl hT64 bN6.tileAt ?_ | refine wl_load_tile rfl rfl hT64 bM6.tileAt ?_ | refine wl_eql_tile rfl rfl rfl hT64 hT64 ?_)
        refine (w_equal B _ _ _ (h3.below k6) (h13.below k6)).mono ?_
        rintro e w7 ⟨rfl, hB7⟩
        go_wp2
        go_ret
        exact ⟨rfl, Below.up hB12 (Below.up (Below.up hBB k6) hB7)⟩

end Go.Proofs.Ytneajhldmecllaa
