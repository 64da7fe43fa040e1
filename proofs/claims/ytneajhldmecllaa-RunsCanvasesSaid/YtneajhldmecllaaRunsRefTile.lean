/- gessoref10.Tile: the reference's bytes of a tile. -/
import Derived.Test.YtneajhldmecllaaRunsEnc
import Derived.Test.YtneajhldmecllaaBytes
namespace Go.Proofs.Ytneajhldmecllaa
open Go.RowKit

/-- the runs that are left, so many of the next colour being behind already -/
def rleP (m : Nat) : List Col → List (Nat × Col)
  | [] => []
  | c :: cs => rleGo (m + 1) c cs

set_option maxRecDepth 100000 in
set_option maxHeartbeats 2000000 in
theorem rtile_any (T : List Col) (hT : T.length = 64) (w : World) :
    Calls Try.prog 12 #[tileV T] w fun e w' => ∃ v, e = .returned v ∧ OwnB w.heap.size w' v (enc T) ∧ Below w.heap.size w w' := by
  have hz := tcells_at T
  unfold tileV
  go_enter Try.func12, Try.ntmps12
  go_wp2_with (first | refine wl_load_tile rfl rfl hT (Blk.new w _ _).tileAt ?_)
  have bT := Blk.new w (tcells T) 29
  have hB0 : Below w.heap.size w (w.alloc (.cells (tcells T) 29)) := by repeat (first | assumption | exact Below.refl _ _ | refine below_dN ?_ _ | refine Below.alloc ?_ (by first | exact Nat.le_refl _ | omega | (simp; done) | (simp; omega)) _ | refine Below.setCell ?_ (by first | exact Nat.le_refl _ | omega | (simp; done) | (simp; omega)) _ | refine Below.drew ?_ | refine Below.trans ?_ (Below.mono (by assumption) (by first | exact Nat.le_refl _ | omega | (simp; done) | (simp; omega))))
  have hsz : (w.alloc (.cells (tcells T) 29)).heap.size = w.heap.size + 1 := by simp
  obtain ⟨W0, hW0⟩ : ∃ W0, w.alloc (.cells (tcells T) 29) = W0 := ⟨_, rfl⟩
  rw [hW0] at bT hB0 hsz ⊢
  clear hW0
  go_loopw [3, 4, 8] (fun o n i wr => ∃ (k m : Nat) (pre : List (Nat × Col)), k ≤ 64 ∧ m ≤ k ∧ pre.length ≤ k ∧ i = .int .i64 k ∧ n = .int .i64 m ∧ wr.ownsRow (w.heap.size + 1) 5 1 o (encR pre).length ((encR pre).map vb) ∧
      pre ++ rleP m (T.drop k) = rle T ∧ Blk wr w.heap.size (tcells T) 29 ∧ Below w.heap.size w wr ∧ w.heap.size + 1 ≤ wr.heap.size)
    (fun _ _ i _ => 64 - (intOf i).toNat)
  case atStart =>
    refine ⟨0, 0, [], by omega, by omega, by simp, rfl, rfl, World.ownsRow_nil _ _ _ _, ?_, bT, hB0, by omega⟩
    cases T with
    | nil => simp at hT
    | cons c T => rfl
  case round =>
    obtain ⟨k, m, pre, hk, hm, hpl, rfl, rfl, hrow, hx, hB, hb, hs⟩ := hrel
    have HX := Lib.hid hx
    clear hx
    by_cases hlt : k < 64
    · obtain ⟨h0, h1, h2, h3⟩ := hz k (by omega)
      have hc := hB.cell
      have hlen : (encR pre).length ≤ 320 := by rw [rleB_len]; omega
      have hsz' : w.heap.size < wr.heap.size := by omega
      by_cases h63 : k = 63
      · subst h63
        have HX' : Hid (pre ++ [(m + 1, T[63])] = rle T) := by refine Lib.hid ?_; rw [← HX.out, List.drop_eq_getElem_cons (by omega : 63 < T.length), List.drop_of_length_le (by omega)]; rfl
        clear HX
        go_wp2_with (first | refine wl_index_tile rfl rfl rfl hT hlt ?_)
        refine wp_region_quiet_lit (by kernel_rfl) (by kernel_rfl) ?_
        repeat (first | go_big_quiet_step (fail) | quiet_step (fail))
        refine wpQuiet_nil ?_
        intro _ hw'
        obtain ⟨nq, hw''⟩ := hw'
        subst hw''
        go_wp2_with (at_builtin; refine wl_append (w.heap.size + 1) elem_byte rfl rfl rfl (ownsRow_below hrow (B := wr.heap.size) (by (repeat (first | assumption | exact Below.refl _ _ | refine below_dN ?_ _ | refine Below.alloc ?_ (by first | exact Nat.le_refl _ | omega | (simp; done) | (simp; omega)) _ | refine Below.setCell ?_ (by first | exact Nat.le_refl _ | omega | (simp; done) | (simp; omega)) _ | refine Below.drew ?_ | refine Below.trans ?_ (Below.mono (by assumption) (by first | exact Nat.le_refl _ | omega | (simp; done) | (simp; omega)))))) (Nat.le_refl _)) (IsSl.new (by simp) (by decide)) (by rfl) (by simp [Value.oneCell']) (by unfold maxLen; omega) (by omega) (by simp; omega) ?_; intro v' w1 hown hg)
        go_roundw
        case rel =>
          refine ⟨64, 0, pre ++ [(m + 1, T[63])], by omega, by omega, by simp; omega, rfl, rfl, ?_, ?_, (((hB.alloc _).drewN _).alloc _).append (ownsRow_below hrow (B := wr.heap.size) (by (repeat (first | assumption | exact Below.refl _ _ | refine below_dN ?_ _ | refine Below.alloc ?_ (by first | exact Nat.le_refl _ | omega | (simp; done) | (simp; omega)) _ | refine Below.setCell ?_ (by first | exact Nat.le_refl _ | omega | (simp; done) | (simp; omega)) _ | refine Below.drew ?_ | refine Below.trans ?_ (Below.mono (by assumption) (by first | exact Nat.le_refl _ | omega | (simp; done) | (simp; omega)))))) (Nat.le_refl _)) hg (by omega), ?_, Nat.le_trans (by simp; omega) hg.size⟩
          · rw [encR_snoc, List.length_append, List.map_append, rleB_map1 (m + 1) _ (by omega)]
            exact hown
          · rw [List.drop_of_length_le (by omega), HX'.out]; simp [rleP]
          · refine below_append ?_ (by omega) (by simp; omega) (ownsRow_below hrow (B := wr.heap.size) (by (repeat (first | assumption | exact Below.refl _ _ | refine below_dN ?_ _ | refine Below.alloc ?_ (by first | exact Nat.le_refl _ | omega | (simp; done) | (simp; omega)) _ | refine Below.setCell ?_ (by first | exact Nat.le_refl _ | omega | (simp; done) | (simp; omega)) _ | refine Below.drew ?_ | refine Below.trans ?_ (Below.mono (by assumption) (by first | exact Nat.le_refl _ | omega | (simp; done) | (simp; omega)))))) (Nat.le_refl _)) hg
            refine hb.trans (Below.mono (B := wr.heap.size) ?_ (by omega))
            repeat (first | assumption | exact Below.refl _ _ | refine below_dN ?_ _ | refine Below.alloc ?_ (by first | exact Nat.le_refl _ | omega | (simp; done) | (simp; omega)) _ | refine Below.setCell ?_ (by first | exact Nat.le_refl _ | omega | (simp; done) | (simp; omega)) _ | refine Below.drew ?_ | refine Below.trans ?_ (Below.mono (by assumption) (by first | exact Nat.le_refl _ | omega | (simp; done) | (simp; omega))))
        case measure => simp only [intOf]; omega
      · obtain ⟨g0, g1, g2, g3⟩ := hz (k + 1) (by omega)
        have hg : ((k : Int) == 63) = false := by simp; omega
        have hd : T.drop k = T[k] :: T[k + 1] :: T.drop (k + 2) := by rw [List.drop_eq_getElem_cons (by omega), List.drop_eq_getElem_cons (by omega)]
        by_cases hx : T[k + 1] = T[k]
        · have hq : (T[k + 1] != T[k]) = false := by simp [hx]
          have HX' : Hid (pre ++ rleP (m + 1) (T.drop (k + 1)) = rle T) := by
            refine Lib.hid ?_; rw [← HX.out, hd, List.drop_eq_getElem_cons (by omega : k + 1 < T.length)]; simp [rleP, rleGo, hx]
          clear HX hd hx
          go_wp2_with (first | refine wl_index_tile rfl rfl rfl hT hlt ?_)
          refine wp_region_quiet_lit (by kernel_rfl) (by kernel_rfl) ?_
          repeat (first | refine wq_neq_col rfl rfl rfl ?_ | go_big_quiet_step (fail) | quiet_step (fail))
          refine wpQuiet_nil ?_
          intro _ hw'
          obtain ⟨nq, hw''⟩ := hw'
          subst hw''
          go_wp2
          go_roundw
          case rel =>
            refine ⟨k + 1, m + 1, pre, by omega, by omega, by omega, by go_num, by go_num, ownsRow_below hrow (B := wr.heap.size) (by (repeat (first | assumption | exact Below.refl _ _ | refine below_dN ?_ _ | refine Below.alloc ?_ (by first | exact Nat.le_refl _ | omega | (simp; done) | (simp; omega)) _ | refine Below.setCell ?_ (by first | exact Nat.le_refl _ | omega | (simp; done) | (simp; omega)) _ | refine Below.drew ?_ | refine Below.trans ?_ (Below.mono (by assumption) (by first | exact Nat.le_refl _ | omega | (simp; done) | (simp; omega)))))) (Nat.le_refl _), HX'.out, (hB.alloc _).drewN _, ?_, by simp; omega⟩
            repeat (first | assumption | exact Below.refl _ _ | refine below_dN ?_ _ | refine Below.alloc ?_ (by first | exact Nat.le_refl _ | omega | (simp; done) | (simp; omega)) _ | refine Below.setCell ?_ (by first | exact Nat.le_refl _ | omega | (simp; done) | (simp; omega)) _ | refine Below.drew ?_ | refine Below.trans ?_ (Below.mono (by assumption) (by first | exact Nat.le_refl _ | omega | (simp; done) | (simp; omega))))
          case measure => simp only [intOf]; omega
        · have hq : (T[k + 1] != T[k]) = true := by simp [hx]
          have HX' : Hid ((pre ++ [(m + 1, T[k])]) ++ rleP 0 (T.drop (k + 1)) = rle T) := by
            refine Lib.hid ?_; rw [← HX.out, hd, List.drop_eq_getElem_cons (by omega : k + 1 < T.length)]; simp [rleP, rleGo, hx]
          clear HX hd hx
          go_wp2_with (first | refine wl_index_tile rfl rfl rfl hT hlt ?_)
          refine wp_region_quiet_lit (by kernel_rfl) (by kernel_rfl) ?_
          repeat (first | refine wq_neq_col rfl rfl rfl ?_ | go_big_quiet_step (fail) | quiet_step (fail))
          refine wpQuiet_nil ?_
          intro _ hw'
          obtain ⟨nq, hw''⟩ := hw'
          subst hw''
          go_wp2_with (at_builtin; refine wl_append (w.heap.size + 1) elem_byte rfl rfl rfl (ownsRow_below hrow (B := wr.heap.size) (by (repeat (first | assumption | exact Below.refl _ _ | refine below_dN ?_ _ | refine Below.alloc ?_ (by first | exact Nat.le_refl _ | omega | (simp; done) | (simp; omega)) _ | refine Below.setCell ?_ (by first | exact Nat.le_refl _ | omega | (simp; done) | (simp; omega)) _ | refine Below.drew ?_ | refine Below.trans ?_ (Below.mono (by assumption) (by first | exact Nat.le_refl _ | omega | (simp; done) | (simp; omega)))))) (Nat.le_refl _)) (IsSl.new (by simp) (by decide)) (by rfl) (by simp [Value.oneCell']) (by unfold maxLen; omega) (by omega) (by simp; omega) ?_; intro v' w1 hown hg)
          go_roundw
          case rel =>
            refine ⟨k + 1, 0, pre ++ [(m + 1, T[k])], by omega, by omega, by simp; omega, by go_num, rfl, ?_, HX'.out, (((hB.alloc _).drewN _).alloc _).append (ownsRow_below hrow (B := wr.heap.size) (by (repeat (first | assumption | exact Below.refl _ _ | refine below_dN ?_ _ | refine Below.alloc ?_ (by first | exact Nat.le_refl _ | omega | (simp; done) | (simp; omega)) _ | refine Below.setCell ?_ (by first | exact Nat.le_refl _ | omega | (simp; done) | (simp; omega)) _ | refine Below.drew ?_ | refine Below.trans ?_ (Below.mono (by assumption) (by first | exact Nat.le_refl _ | omega | (simp; done) | (simp; omega)))))) (Nat.le_refl _)) hg (by omega), ?_, Nat.le_trans (by simp; omega) hg.size⟩
            · rw [encR_snoc, List.length_append, List.map_append, rleB_map1 (m + 1) _ (by omega)]
              exact hown
            · refine below_append ?_ (by omega) (by simp; omega) (ownsRow_below hrow (B := wr.heap.size) (by (repeat (first | assumption | exact Below.refl _ _ | refine below_dN ?_ _ | refine Below.alloc ?_ (by first | exact Nat.le_refl _ | omega | (simp; done) | (simp; omega)) _ | refine Below.setCell ?_ (by first | exact Nat.le_refl _ | omega | (simp; done) | (simp; omega)) _ | refine Below.drew ?_ | refine Below.trans ?_ (Below.mono (by assumption) (by first | exact Nat.le_refl _ | omega | (simp; done) | (simp; omega)))))) (Nat.le_refl _)) hg
              refine hb.trans (Below.mono (B := wr.heap.size) ?_ (by omega))
              repeat (first | assumption | exact Below.refl _ _ | refine below_dN ?_ _ | refine Below.alloc ?_ (by first | exact Nat.le_refl _ | omega | (simp; done) | (simp; omega)) _ | refine Below.setCell ?_ (by first | exact Nat.le_refl _ | omega | (simp; done) | (simp; omega)) _ | refine Below.drew ?_ | refine Below.trans ?_ (Below.mono (by assumption) (by first | exact Nat.le_refl _ | omega | (simp; done) | (simp; omega))))
          case measure => simp only [intOf]; omega
    · obtain rfl : k = 64 := by omega
      have HX' : Hid (pre = rle T) := by refine Lib.hid ?_; rw [← HX.out, List.drop_of_length_le (by omega)]; simp [rleP]
      clear HX
      go_wp2
      go_ret
      refine ⟨_, rfl, ?_, hb⟩
      unfold OwnB enc
      rw [← HX'.out]
      exact ownsRow_base hrow (by omega)

end Go.Proofs.Ytneajhldmecllaa
