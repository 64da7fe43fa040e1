/- gessoref10.Patch. -/
import Derived.Test.YtneajhldmecllaaRefCan
namespace Go.Proofs.Ytneajhldmecllaa
open Go.RowKit

set_option maxRecDepth 100000 in
set_option maxHeartbeats 2000000 in
theorem refpatch_any (x y : Nat) (x2 y2 : Int) (v0 v : Value) (A L : List (List Col)) (w : World) (hx : x ≤ 4) (hy : y ≤ 4) (hA : Tiles w v0 A) (hL : Tiles w v L) (hl : L.length ≤ 1000) (hAL : L.length ≤ A.length) :
    Calls Try.prog 25 #[canV x y v0, canV x2 y2 v] w fun e w' => ∃ v', e = .returned v' ∧ OwnB w.heap.size w' v' (patchB x y A L) ∧ Below w.heap.size w w' := by
  obtain ⟨a0, c0, rfl, hc0, hm0⟩ := hA.slice
  obtain ⟨a1, c1, rfl, hc1, hm1⟩ := hL.slice
  have hx' : IntKind.u8.wrap (x : Int) = x := by show ((x : Int) % 256) = x; omega
  have hy' : IntKind.u8.wrap (y : Int) = y := by show ((y : Int) % 256) = y; omega
  have hB1 := Below.upA (Below.new w (.cells #[.int .i64 x, .int .i64 y, .slice a0 A.length c0] 43)) (.cells #[.int .i64 x2, .int .i64 y2, .slice a1 L.length c1] 43)
  have k0 := (Blk.new w #[.int .i64 x, .int .i64 y, .slice a0 A.length c0] 43).alloc (.cells #[.int .i64 x2, .int .i64 y2, .slice a1 L.length c1] 43)
  have k1 := Blk.new (w.alloc (.cells #[.int .i64 x, .int .i64 y, .slice a0 A.length c0] 43)) #[.int .i64 x2, .int .i64 y2, .slice a1 L.length c1] 43
  simp only [World.size_alloc] at k1
  have hown : OwnB (w.heap.size + 2) (((w.alloc (.cells #[.int .i64 x, .int .i64 y, .slice a0 A.length c0] 43)).alloc (.cells #[.int .i64 x2, .int .i64 y2, .slice a1 L.length c1] 43)).alloc (.cells #[.int .u8 x, .int .u8 y] 5)) (.slice (some ⟨w.heap.size + 2, 0, none⟩) 2 2) (headB x y) := by
    have h := World.ownsRow_lit (base := w.heap.size + 2) (e := 5) (size := 1) ((w.alloc (.cells #[.int .i64 x, .int .i64 y, .slice a0 A.length c0] 43)).alloc (.cells #[.int .i64 x2, .int .i64 y2, .slice a1 L.length c1] 43)) #[.int .u8 x, .int .u8 y] 2 (by simp) (by decide) rfl
    unfold OwnB headB
    simpa [← u8_small x hx, ← u8_small y hy] using h
  have HX := Lib.hid hx'
  have hT2 := (hL.below hB1).below (Below.new _ (.cells #[.int .u8 x, .int .u8 y] 5))
  have hB2 := Below.upA hB1 (.cells #[.int .u8 x, .int .u8 y] 5)
  have k2 := k0.alloc (.cells #[.int .u8 x, .int .u8 y] 5)
  have k3 := k1.alloc (.cells #[.int .u8 x, .int .u8 y] 5)
  have hs2 : (((w.alloc (.cells #[.int .i64 x, .int .i64 y, .slice a0 A.length c0] 43)).alloc (.cells #[.int .i64 x2, .int .i64 y2, .slice a1 L.length c1] 43)).alloc (.cells #[.int .u8 x, .int .u8 y] 5)).heap.size = w.heap.size + 3 := by simp
  clear HX
  obtain ⟨W2, hW2⟩ : ∃ W2, ((w.alloc (.cells #[.int .i64 x, .int .i64 y, .slice a0 A.length c0] 43)).alloc (.cells #[.int .i64 x2, .int .i64 y2, .slice a1 L.length c1] 43)).alloc (.cells #[.int .u8 x, .int .u8 y] 5) = W2 := ⟨_, rfl⟩
  rw [hW2] at hown hT2 hB2 k2 k3 hs2
  clear hB1
  obtain ⟨q1, q2, q3⟩ := k2.all
  obtain ⟨q4, q5, q6⟩ := k0.all
  obtain ⟨q7, q8, q9⟩ := k1.all
  obtain ⟨s1, s2, s3⟩ := k3.all
  go_enter Try.func25, Try.ntmps25
  go_wp2
  clear hW2 q1 q2 q3 q4 q5 q6 q7 q8 q9 s1 s2 s3 k0 k1 k3
  go_loopw [5, 18] (fun o i wr => ∃ k : Nat, k ≤ L.length ∧ i = .int .i64 k ∧ OwnB (w.heap.size + 2) wr o (headB x y ++ bodyB (oldZ A) 0 (L.take k)) ∧ Below w.heap.size w wr ∧ Below (w.heap.size + 2) W2 wr)
    (fun _ i _ => L.length - (intOf i).toNat)
  case atStart => exact ⟨0, by omega, rfl, by simpa [bodyB] using hown, hB2, Below.refl _ _⟩
  case round =>
    obtain ⟨k, hk, rfl, ho, hB, hB'⟩ := hrel
    have kw := k2.below hB' (by omega)
    have hTw := hL.below hB
    by_cases hlt : k < L.length
    · have hT64 : L[k].length = 64 := hL.1 _ (by simp)
      have hZ64 : (oldZ A k).length = 64 := by
        unfold oldZ
        rw [List.getD_eq_getElem?_getD, List.getElem?_eq_getElem (by omega)]; exact hA.1 _ (by simp)
      obtain ⟨b, o', rfl, hT, hb⟩ := hTw.get k hlt
      have hbl := bodyB_len (oldZ A) (L.take k) (fun T hT => hL.1 T (List.mem_of_mem_take hT)) 0
      have hlk : (L.take k).length ≤ 1000 := by simp; omega
      have hbl2 : (headB x y ++ bodyB (oldZ A) 0 (L.take k)).length ≤ 400000 := by unfold headB; simp; omega
      have HS : Hid (headB x y ++ bodyB (oldZ A) 0 (L.take (k + 1)) = (headB x y ++ bodyB (oldZ A) 0 (L.take k)) ++ stepB L[k] (oldZ A k)) := by
        refine Lib.hid ?_
        rw [List.take_succ_eq_append_getElem hlt, bodyB_snoc, List.append_assoc, List.length_take, Nat.min_eq_left hk, Nat.zero_add]
      obtain ⟨T, eT⟩ : ∃ T, L[k] = T := ⟨_, rfl⟩
      rw [eT] at hT64 hT HS
      obtain ⟨Z, eZ⟩ : ∃ Z, oldZ A k = Z := ⟨_, rfl⟩
      rw [eZ] at hZ64 HS
      have HZ := Lib.hid eZ
      clear eT eZ hbl hlk
      obtain ⟨R, hR⟩ : ∃ R, headB x y ++ bodyB (oldZ A) 0 (L.take k) = R := ⟨_, rfl⟩
      rw [hR] at ho hbl2 HS
      clear hR
      have bT := Blk.new wr (tcells T) 29
      obtain ⟨ao, co, rfl, hco, hmo⟩ := ownsRow_slice ho
      go_wp2_with (first | refine wl_load_tile rfl rfl hT64 hT ?_ | refine wl_alloc_tile rfl ?_ | refine wl_store_tile_new rfl rfl rfl rfl (by rfl) hT64 ?_)
      have hsw := hB.size
      have hsw' := hB'.size
      have ho1 : OwnB (w.heap.size + 2) (wr.alloc (.cells (tcells T) 29)) (.slice ao R.length co) R := ownsRow_below ho (Below.new wr _) (Nat.le_refl _)
      have hB1 := hB.alloc hsw (.cells (tcells T) 29)
      have hB1' := hB'.alloc (by omega) (.cells (tcells T) 29)
      have kw1 := kw.alloc (.cells (tcells T) 29)
      have hs1 : w.heap.size + 2 ≤ (wr.alloc (.cells (tcells T) 29)).heap.size := by simp; omega
      obtain ⟨pT, hpT⟩ : ∃ p, wr.heap.size = p := ⟨_, rfl⟩
      rw [hpT] at bT ⊢
      have hpT1 : w.heap.size + 2 ≤ pT := by omega
      obtain ⟨W3, hW3⟩ : ∃ W3, wr.alloc (.cells (tcells T) 29) = W3 := ⟨_, rfl⟩
      rw [hW3] at bT ho1 hB1 hB1' kw1 hs1 ⊢
      clear hW3 hpT hB hB' kw hTw hT ho hb hsw hsw'
      have tL := hA.below hB1
      have kAl : k < A.length := by omega
      obtain ⟨b2, o2, rfl, hT2, hb2⟩ := tL.get k kAl
      rw [show A[k] = Z from by rw [← HZ.out]; unfold oldZ; rw [List.getD_eq_getElem?_getD, List.getElem?_eq_getElem kAl]; rfl] at hT2
      have e2 : W3.cell? ⟨w.heap.size, 2, none⟩ = some (.slice (some ⟨b2, o2, none⟩) A.length c0) := kw1.cell 2
      refine wp_region_cuts [.q [_, _, _, _, _, _]] [_] rfl (fun w'' => Below W3.heap.size W3 w'') (by kernel_rfl) (by kernel_rfl) (fun _ _ d _ _ h => by cases d <;> exact h) ?_
      refine cut_q (Below.refl _ W3).drew ?_
      repeat (first | go_big_quiet_step ((intros; rfl)) | quiet_step ((intros; rfl)) | (refine wq_load_tile rfl rfl hT64 (fun w'' hC => (Blk.up bT hC).tileAt) ?_; simp only [Act.put, List.setIfInBounds_toArray, List.set_cons_succ, List.set_cons_zero]) | (refine wq_load_tile rfl rfl hZ64 (fun w'' hC => hT2.below hC hb2) ?_; simp only [Act.put, List.setIfInBounds_toArray, List.set_cons_succ, List.set_cons_zero]) | (refine wq_loadB rfl rfl (by kernel_rfl) (by assumption) ?_; simp only [Act.put, List.setIfInBounds_toArray, List.set_cons_succ, List.set_cons_zero]))
      refine wpQuiet_nil ?_
      refine cut_end ?_
      obtain ⟨W4, hW4⟩ : ∃ W4, W3.drew = W4 := ⟨_, rfl⟩
      have hB34 : Below W3.heap.size W3 W4 := by rw [← hW4]; exact (Below.refl W3.heap.size W3).drew
      rw [hW4]
      clear hW4
      have bT4 := Blk.up bT hB34
      have ho4 : OwnB (w.heap.size + 2) W4 (.slice ao R.length co) R := ownsRow_below ho1 hB34 (Nat.le_refl _)
      have hB4a := hB1.trans (hB34.mono (by omega))
      have hB4b := hB1'.trans (hB34.mono hs1)
      have hs4 := hB34.size
      have hlt' : k + 1 ≤ L.length := hlt
      clear tL bT ho1 hB1 hB1' kw1 HZ hB34 hT2 e2
      by_cases hTZ : T = Z
      · have hqe : (T == Z) = true := by simpa using hTZ
        have HT : Hid (stepB T Z = [0]) := by refine Lib.hid ?_; unfold stepB; rw [if_pos hTZ]
        clear hTZ
        go_wp2_with (first | (refine wl_eql_tile rfl rfl rfl hT64 hZ64 ?_; rw [hqe]) | (refine wl_append_bytes (w.heap.size + 2) rfl rfl rfl (ownsRow_below ho4 (Below.new W4 _) (Nat.le_refl _)) (bytes_new W4 [0] _ _ _ 1 rfl rfl rfl (by decide)) (by simp; omega) (by simp; omega) ?_; intro v5 W5 ho5 hB5))
        go_roundw
        case rel => exact ⟨k + 1, hlt', by go_num, by rw [HS.out, HT.out]; exact ho5, (hB4a.alloc (by omega) _).trans (hB5.mono (by omega)), (hB4b.alloc (by omega) _).trans hB5⟩
        case measure => simp only [intOf]; omega
      · have hqe : (T == Z) = false := by simpa using hTZ
        have HT : Hid (stepB T Z = enc T) := by refine Lib.hid ?_; unfold stepB; rw [if_neg hTZ]
        have hel := enc_len T hT64
        have hrl := runsOf_le T hT64
        clear hTZ
        go_wp2_with (first | (refine wl_eql_tile rfl rfl rfl hT64 hZ64 ?_; rw [hqe]) | refine wl_load_tile rfl rfl hT64 bT4.tileAt ?_)
        refine (rtile_any T hT64 _).mono ?_
        rintro e W5 ⟨v5, rfl, ho5, hB5⟩
        have hs5 := hB5.size
        have ho5' : OwnB (w.heap.size + 2) W5 (.slice ao R.length co) R := ownsRow_below ho4 hB5 (Nat.le_refl _)
        go_wp2_with (refine wl_append_bytes (w.heap.size + 2) rfl rfl rfl ho5' ho5.bytes (by omega) (by omega) ?_; intro v6 W6 ho6 hB6)
        go_roundw
        case rel => exact ⟨k + 1, hlt', by go_num, by rw [HS.out, HT.out]; exact ho6, (hB4a.trans (hB5.mono (by omega))).trans (hB6.mono (by omega)), (hB4b.trans (hB5.mono (by omega))).trans hB6⟩
        case measure => simp only [intOf]; omega
    · obtain rfl : k = L.length := by omega
      go_wp2
      go_ret
      refine ⟨_, rfl, ?_, hB⟩
      rw [List.take_length] at ho
      exact ownsRow_base ho (by omega)

end Go.Proofs.Ytneajhldmecllaa
