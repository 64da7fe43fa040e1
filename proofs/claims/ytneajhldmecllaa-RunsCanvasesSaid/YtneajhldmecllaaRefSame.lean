/- gessoref05.Same: do two canvases show the same? -/
import Derived.Test.YtneajhldmecllaaRefCan
namespace Go.Proofs.Ytneajhldmecllaa
open Go.RowKit

set_option maxRecDepth 100000 in
set_option maxHeartbeats 2000000 in
theorem same_any (x y x' y' : Int) (v v' : Value) (L M : List (List Col)) (w : World) (hL : Tiles w v L) (hM : Tiles w v' M) (hl : L.length ≤ 1000000) :
    Calls Try.prog 27 #[canV x y v, canV x' y' v'] w fun e w' => e = .returned (.bool (decide (x = x' ∧ y = y' ∧ L = M))) ∧ Below w.heap.size w w' := by
  obtain ⟨a, c, rfl, hc, hm⟩ := hL.slice
  obtain ⟨a', c', rfl, hc', hm'⟩ := hM.slice
  have hB2 : Below w.heap.size w ((w.alloc (.cells #[.int .i64 x, .int .i64 y, .slice a L.length c] 43)).alloc (.cells #[.int .i64 x', .int .i64 y', .slice a' M.length c'] 43)) := by repeat (first | assumption | exact Below.refl _ _ | refine below_dN ?_ _ | refine Below.alloc ?_ (by first | exact Nat.le_refl _ | omega | (simp; done) | (simp; omega)) _ | refine Below.setCell ?_ (by first | exact Nat.le_refl _ | omega | (simp; done) | (simp; omega)) _ | refine Below.drew ?_ | refine Below.trans ?_ (Below.mono (by assumption) (by first | exact Nat.le_refl _ | omega | (simp; done) | (simp; omega))))
  have k1 := Blk.new (w.alloc (.cells #[.int .i64 x, .int .i64 y, .slice a L.length c] 43)) #[.int .i64 x', .int .i64 y', .slice a' M.length c'] 43
  simp only [World.size_alloc] at k1
  by_cases h1 : x = x'
  · by_cases h2 : y = y'
    · by_cases h3 : L.length = M.length
      · have q1 : (x != x') = false := by simpa using h1
        have q2 : (y != y') = false := by simpa using h2
        have q3 : ((L.length : Int) != (M.length : Int)) = false := by rw [bne_eq_false_iff_eq]; omega
        have e : decide (x = x' ∧ y = y' ∧ L = M) = decide (L = M) := by simp [h1, h2]
        rw [e]
        have HL := Lib.hid h3
        clear e h1 h2 h3
        go_enter Try.func27, Try.ntmps27
        go_wp2
        obtain ⟨W2, hW2⟩ : ∃ W2, (w.alloc (.cells #[.int .i64 x, .int .i64 y, .slice a L.length c] 43)).alloc (.cells #[.int .i64 x', .int .i64 y', .slice a' M.length c'] 43) = W2 := ⟨_, rfl⟩
        rw [hW2] at hB2 k1 ⊢
        clear hW2
        go_loopw [31] (fun i wr => ∃ k : Nat, k ≤ L.length ∧ i = .int .i64 k ∧ L.take k = M.take k ∧ Below W2.heap.size W2 wr) (fun i _ => L.length - (intOf i).toNat)
        case atStart => exact ⟨0, by omega, rfl, by simp, Below.refl _ _⟩
        case round =>
          obtain ⟨k, hk, rfl, heq, hB⟩ := hrel
          by_cases hlt : k < L.length
          · have hlt2 : k < M.length := by have := HL.out; omega
            have hB0 := Below.up hB2 hB
            obtain ⟨b, o, rfl, hT, hb⟩ := (hL.below hB0).get k hlt
            obtain ⟨b2, o2, rfl, hT2, hb2⟩ := (hM.below hB0).get k hlt2
            have t1 : L[k].length = 64 := hL.1 _ (by simp)
            have t2 : M[k].length = 64 := hM.1 _ (by simp)
            have kw := Blk.up k1 hB
            have HE := Lib.hid heq
            clear heq
            have HT1 : Hid (L.take (k + 1) = L.take k ++ [L[k]]) := Lib.hid (List.take_succ_eq_append_getElem hlt)
            have HT2 : Hid (M.take (k + 1) = M.take k ++ [M[k]]) := Lib.hid (List.take_succ_eq_append_getElem hlt2)
            have HN : Hid (L[k] ≠ M[k] → ¬ L = M) := Lib.hid (fun h e => h (by subst e; rfl))
            obtain ⟨T, eT⟩ : ∃ T, L[k] = T := ⟨_, rfl⟩
            obtain ⟨Z, eZ⟩ : ∃ Z, M[k] = Z := ⟨_, rfl⟩
            rw [eT] at t1 hT HT1 HN
            rw [eZ] at t2 hT2 HT2 HN
            clear eT eZ
            have bT := Blk.new wr (tcells T) 29
            go_wp2_with (first | refine wl_load_tile rfl rfl t1 hT ?_ | refine wl_alloc_tile rfl ?_ | refine wl_store_tile_new rfl rfl rfl rfl (by rfl) t1 ?_)
            have kw1 := kw.alloc (.cells (tcells T) 29)
            have hT2' := hT2.below (Below.new wr (.cells (tcells T) 29)) hb2
            have hB1 := Below.upA hB (.cells (tcells T) 29)
            have hsz : wr.heap.size < (wr.alloc (.cells (tcells T) 29)).heap.size := by simp
            have hb3 : b2 < (wr.alloc (.cells (tcells T) 29)).heap.size := by simp; omega
            obtain ⟨W3, hW3⟩ : ∃ W3, wr.alloc (.cells (tcells T) 29) = W3 := ⟨_, rfl⟩
            rw [hW3] at bT kw1 hT2' hB1 hsz hb3 ⊢
            clear hW3
            have e2 : W3.cell? ⟨w.heap.size + 1, 2, none⟩ = some (.slice (some ⟨b2, o2, none⟩) M.length c') := kw1.cell 2
            refine wp_region_cuts [.q [_, _, _, _, _, _]] [_] rfl (fun w'' => Below W3.heap.size W3 w'') (by kernel_rfl) (by kernel_rfl) (fun _ _ d _ _ h => by cases d <;> exact h) ?_
            refine cut_q (Below.refl _ W3).drew ?_
            repeat (first | go_big_quiet_step ((intros; rfl)) | quiet_step ((intros; rfl)) | (refine wq_load_tile rfl rfl t1 (fun w'' hC => (Blk.up bT hC).tileAt) ?_; simp only [Act.put, List.setIfInBounds_toArray, List.set_cons_succ, List.set_cons_zero]) | (refine wq_load_tile rfl rfl t2 (fun w'' hC => hT2'.below hC hb3) ?_; simp only [Act.put, List.setIfInBounds_toArray, List.set_cons_succ, List.set_cons_zero]) | (refine wq_loadB rfl rfl (by kernel_rfl) (by assumption) ?_; simp only [Act.put, List.setIfInBounds_toArray, List.set_cons_succ, List.set_cons_zero]))
            refine wpQuiet_nil ?_
            refine cut_end ?_
            have hB3 := Below.drew hB1
            by_cases hTZ : T = Z
            · have hqe : (T != Z) = false := by simpa using hTZ
              have HTZ := Lib.hid hTZ
              clear hTZ
              go_wp2_with (refine wl_neq_tile rfl rfl rfl t1 t2 ?_; rw [hqe])
              go_roundw
              case rel => exact ⟨k + 1, by omega, by go_num, by rw [HT1.out, HT2.out, HE.out, HTZ.out], hB3⟩
              case measure => simp only [intOf]; omega
            · have hqe : (T != Z) = true := by simpa using hTZ
              have hne := HN.out hTZ
              clear hTZ
              go_wp2_with (refine wl_neq_tile rfl rfl rfl t1 t2 ?_; rw [hqe])
              go_ret
              exact ⟨by simp [hne], Below.up hB2 hB3⟩
          · obtain rfl : k = L.length := by omega
            have : L = M := by rw [List.take_length, List.take_of_length_le (by have := HL.out; omega)] at heq; exact heq
            have HT := Lib.hid this
            clear this heq
            go_wp2
            go_ret
            exact ⟨by rw [HT.out]; simp, Below.up hB2 hB⟩
      · have q1 : (x != x') = false := by simpa using h1
        have q2 : (y != y') = false := by simpa using h2
        have q3 : ((L.length : Int) != (M.length : Int)) = true := by simpa using (by omega : ¬ (L.length : Int) = (M.length : Int))
        have e : decide (x = x' ∧ y = y' ∧ L = M) = false := by
          have : ¬ L = M := fun h => h3 (by rw [h])
          simp [this]
        rw [e]
        clear e h1 h2 h3
        go_enter Try.func27, Try.ntmps27
        go_wp2
        go_ret
        exact ⟨rfl, hB2⟩
    · have q1 : (x != x') = false := by simpa using h1
      have q2 : (y != y') = true := by simpa using h2
      have e : decide (x = x' ∧ y = y' ∧ L = M) = false := by simp [h2]
      rw [e]
      clear e h1 h2
      go_enter Try.func27, Try.ntmps27
      go_wp2
      go_ret
      exact ⟨rfl, hB2⟩
  · have q1 : (x != x') = true := by simpa using h1
    have e : decide (x = x' ∧ y = y' ∧ L = M) = false := by simp [h1]
    rw [e]
    clear e h1
    go_enter Try.func27, Try.ntmps27
    go_wp2
    go_ret
    exact ⟨rfl, hB2⟩

end Go.Proofs.Ytneajhldmecllaa
