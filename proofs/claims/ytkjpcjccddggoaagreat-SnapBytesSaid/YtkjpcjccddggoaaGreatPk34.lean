/- Walks by data and names, part 34: runs: told over bytes, bytes, ahead. gessoref10.Tile: the reference's bytes of a tile. -/
import Derived.Test.YtkjpcjccddggoaaGreatPk33
import Derived.Test.YtkjpcjccddggoaaGreatPk32
import Derived.Test.YtkjpcjccddggoaaGreatPk3
namespace Go.Proofs.YtkjpcjccddggoaaGreat
set_option maxRecDepth 20000
open Go.RowKit
/-- what a tile comes to, if another one is the zero of its place -/
def stepB (T Z : List Col) : List UInt8 := if T = Z then [0] else enc T
def bodyB (Z : Nat → List Col) : Nat → List (List Col) → List UInt8
  | _, [] => []
  | k, T :: L => stepB T (Z k) ++ bodyB Z (k + 1) L
theorem bodyB_snoc (Z : Nat → List Col) (L : List (List Col)) (T : List Col) : ∀ k, bodyB Z k (L ++ [T]) = bodyB Z k L ++ stepB T (Z (k + L.length)) := by
  induction L with
  | nil => intro k; simp [bodyB]
  | cons U L ih => intro k; rw [List.cons_append, bodyB, bodyB, ih, List.append_assoc, show k + 1 + L.length = k + (U :: L).length from by simp; omega]
theorem stepB_len (T Z : List Col) (hT : T.length = 64) : (stepB T Z).length ≤ 325 := by
  unfold stepB
  split
  · simp
  · rw [enc_len T hT]; have := runsOf_le T hT; omega
theorem bodyB_len (Z : Nat → List Col) (L : List (List Col)) (h : All64 L) : ∀ k, (bodyB Z k L).length ≤ 325 * L.length := by
  induction L with
  | nil => intro k; simp [bodyB]
  | cons T L ih =>
    intro k
    have := ih (fun U hU => h U (by simp [hU])) (k + 1)
    have := stepB_len T (Z k) (h T (by simp))
    rw [bodyB, List.length_append]; simp; omega
/-- a closure that tells the zero of each place -/
structure ZeroFn (w0 : World) (z : Value) (Z : Nat → List Col) (n : Nat) (f : FuncId) (cv : Value) : Prop where
  val : z = .func (.func f) #[] #[cv]
  enters : ∀ (i : Value) (w : World), (callFunc f #[i, cv]).run Tryz.prog w = .ok (.enter f #[i, cv]) w
  len : ∀ i, i < n → (Z i).length = 64
  tells : ∀ w, Below w0.heap.size w0 w → ∀ i, i < n → Calls Tryz.prog f #[.int .i64 i, cv] w fun e w' => e = .returned (tileV (Z i)) ∧ Below w.heap.size w w'
set_option maxRecDepth 100000 in
set_option maxHeartbeats 2000000 in
theorem bytes1_any (w0 w : World) (base pz i n : Nat) (z bv : Value) (f : FuncId) (cv : Value) (Z : Nat → List Col) (T : List Col) (bs : List UInt8) (hw : Below base w0 w) (h0 : w0.heap.size ≤ base) (hbs : base ≤ w.heap.size) (hT : T.length = 64)
    (hpz : Blk w0 pz #[z] 161) (hz : ZeroFn w0 z Z n f cv) (hi : i < n) (ho : OwnB base w bv bs) (hlen : bs.length ≤ 1000000) :
    Calls Tryz.prog 137 #[bv, .int .i64 i, tileV T, .pointer (some ⟨pz, 0, none⟩)] w fun e w' => ∃ v', e = .returned v' ∧ OwnB base w' v' (bs ++ stepB T (Z i)) ∧ Below base w w' := by
  obtain ⟨hzv, hen, hzl, htl⟩ := hz
  subst hzv
  have hlt := hpz.lt
  have hp := (hpz.below hw (by omega)).alloc (.cells (tcells T) 109)
  have hnew := Blk.new w (tcells T) 109
  have hB1 : Below base w (w.alloc (.cells (tcells T) 109)) := by repeat (first | assumption | exact Below.refl _ _ | refine below_dN ?_ _ | refine Below.alloc ?_ (by first | exact Nat.le_refl _ | omega | (simp; fail_if_success (focus skip)) | (simp; omega)) _ | refine Below.setCell ?_ (by first | exact Nat.le_refl _ | omega | (simp; fail_if_success (focus skip)) | (simp; omega)) _ | refine Below.drew ?_ | refine Below.trans ?_ (Below.mono (by assumption) (by first | exact Nat.le_refl _ | omega | (simp; fail_if_success (focus skip)) | (simp; omega))))
  have hs1 : w.heap.size + 1 = (w.alloc (.cells (tcells T) 109)).heap.size := by simp
  have ho1 := ownsRow_below ho (B := w.heap.size) ((Below.refl _ w).alloc (Nat.le_refl _) (.cells (tcells T) 109)) (Nat.le_refl _)
  obtain ⟨ad, cc, rfl, hc1, hc2⟩ := ownsRow_slice ho
  unfold tileV
  go_enter Tryz.func137, Tryz.ntmps137
  go_wp2
  obtain ⟨W1, hW1⟩ : ∃ W1, w.alloc (.cells (tcells T) 109) = W1 := ⟨_, rfl⟩
  rw [hW1] at hp hnew hB1 hs1 ho1 ⊢
  clear hW1
  have hpc := hp.cell 0
  simp only [List.getElem?_toArray, List.getElem?_cons_zero] at hpc
  refine wp_region_cuts [.q [_, _, _], .e _] [_] rfl (fun w'' => Below W1.heap.size W1 w'') (by kernel_rfl) (by kernel_rfl) (fun _ _ d _ _ h => by cases d <;> exact h) ?_
  refine cut_q (by (repeat (first | assumption | exact Below.refl _ _ | refine below_dN ?_ _ | refine Below.alloc ?_ (by first | exact Nat.le_refl _ | omega | (simp; fail_if_success (focus skip)) | (simp; omega)) _ | refine Below.setCell ?_ (by first | exact Nat.le_refl _ | omega | (simp; fail_if_success (focus skip)) | (simp; omega)) _ | refine Below.drew ?_ | refine Below.trans ?_ (Below.mono (by assumption) (by first | exact Nat.le_refl _ | omega | (simp; fail_if_success (focus skip)) | (simp; omega)))))) ?_
  repeat (first | go_big_quiet_step ((intros; rfl)) | quiet_step ((intros; rfl)) | (refine wq_load_tile rfl rfl hT (fun w'' hC => (hnew.below hC hnew.lt).tileAt) ?_; simp only [Act.put, List.setIfInBounds_toArray, List.set_cons_succ, List.set_cons_zero]) | (refine wq_loadB rfl rfl (by kernel_rfl) (by assumption) ?_; simp only [Act.put, List.setIfInBounds_toArray, List.set_cons_succ, List.set_cons_zero]))
  refine wpQuiet_nil ?_
  refine cut_e ?_
  have hd0 : Below w0.heap.size w0 W1.drew := (hw.mono h0).trans ((hB1.mono h0).trans (Below.refl _ W1).drew)
  go_wp2
  refine (htl W1.drew hd0 i hi).mono ?_
  rintro e w2 ⟨rfl, hb2⟩
  have hb2' : Below W1.heap.size W1 w2 := ((Below.refl _ W1).drew).trans hb2
  have hs2 := hb2'.size
  clear hd0
  go_wp2
  refine ⟨hb2', ?_⟩
  refine cut_end ?_
  have ho2 : OwnB base w2 (.slice ad bs.length cc) bs := ownsRow_below ho1 (B := W1.heap.size) hb2' (Nat.le_refl _)
  have hn2 := hnew.below hb2' hnew.lt
  have hB2 : Below base w w2 := hB1.trans (hb2'.mono (by omega))
  by_cases hx : T = Z i
  · have hq : (T == Z i) = true := by simpa using hx
    have hst : Hid (stepB T (Z i) = [0]) := by refine Lib.hid ?_; unfold stepB; rw [if_pos hx]
    clear hx
    go_wp2_with (first | (refine wl_eql_tile rfl rfl rfl hT (hzl i hi) ?_; rw [hq]) | (refine wl_append base elem_byte rfl rfl rfl (ownsRow_below ho2 (B := w2.heap.size) ((Below.refl _ w2).alloc (Nat.le_refl _) _) (Nat.le_refl _)) (IsSl.new (by simp) (by decide)) (by rfl) (by simp [Value.oneCell']) (by unfold maxLen; omega) (by omega) (by simp; omega) ?_; intro v' w3 hown hg))
    go_ret
    refine ⟨_, rfl, by unfold OwnB; rw [hst.out, List.length_append, List.map_append]; exact hown, ?_⟩
    exact below_append (hB2.alloc (by omega) _) (Nat.le_refl _) (by simp; omega) (ownsRow_below ho2 (B := w2.heap.size) ((Below.refl _ w2).alloc (Nat.le_refl _) _) (Nat.le_refl _)) hg
  · have hq : (T == Z i) = false := by simpa using hx
    have hel : (enc T).length ≤ 325 := by rw [enc_len T hT]; have := runsOf_le T hT; omega
    have hst : Hid (stepB T (Z i) = enc T) := by refine Lib.hid ?_; unfold stepB; rw [if_neg hx]
    clear hx
    go_wp2_with (first | (refine wl_eql_tile rfl rfl rfl hT (hzl i hi) ?_; rw [hq]) | refine wl_load_tile rfl rfl hT hn2.tileAt ?_ | (go_at_call 138; refine (tile_any T hT _).mono ?_; rintro e w3 ⟨v3, rfl, hown3, hb3⟩) | (refine wl_append base elem_byte rfl rfl rfl (ownsRow_below ho2 (B := w2.heap.size) hb3 (Nat.le_refl _)) (IsSl.of_own hown3) (by simp) (one_bytes _) (by unfold maxLen; omega) (by omega) (by have := hb3.size; omega) ?_; intro v' w4 hown hg))
    go_ret
    refine ⟨_, rfl, by unfold OwnB; rw [hst.out, List.length_append, List.map_append]; exact hown, ?_⟩
    exact below_append (hB2.trans (hb3.mono (by omega))) (Nat.le_refl _) (by have := hb3.size; omega) (ownsRow_below ho2 (B := w2.heap.size) hb3 (Nat.le_refl _)) hg
set_option maxRecDepth 100000 in
set_option maxHeartbeats 2000000 in
theorem told_bytes (w0 w : World) (base pz : Nat) (z bv v : Value) (f : FuncId) (cv : Value) (Z : Nat → List Col) (L : List (List Col)) (bs : List UInt8) (hw : Below base w0 w) (h0 : w0.heap.size ≤ base) (hbs : base ≤ w.heap.size)
    (hL : Tiles w0 v L) (hl : L.length ≤ 1000) (hpz : Blk w0 pz #[z] 161) (hz : ZeroFn w0 z Z L.length f cv) (ho : OwnB base w bv bs) (hlen : bs.length ≤ 1000) :
    Calls Tryz.prog 136 #[bv, v, .func (.func 137) #[] #[.pointer (some ⟨pz, 0, none⟩)]] w fun e w' => ∃ v', e = .returned v' ∧ OwnB base w' v' (bs ++ bodyB Z 0 L) ∧ Below base w w' := by
  obtain ⟨a1, c1, rfl, hc1, hm1⟩ := hL.slice
  go_enter Tryz.func136, Tryz.ntmps136
  go_wp2
  go_loopw [0, 11] (fun s i wr => ∃ k : Nat, k ≤ L.length ∧ i = .int .i64 k ∧ OwnB base wr s (bs ++ bodyB Z 0 (L.take k)) ∧ Below base w wr ∧ base ≤ wr.heap.size) (fun _ i _ => L.length - (intOf i).toNat)
  case atStart => exact ⟨0, by omega, rfl, by simpa [bodyB] using ho, Below.refl _ _, hbs⟩
  case round =>
    obtain ⟨k, hk, rfl, hown, hB, hs⟩ := hrel
    by_cases hlt : k < L.length
    · obtain ⟨b1, o1, rfl, e1, x1⟩ := hL.get k hlt
      have hB0 : Below base w0 wr := hw.trans hB
      have e1' := e1.below hB0 (by omega)
      have t1 : L[k].length = 64 := hL.1 _ (by simp)
      have hle := bodyB_len Z (L.take k) (fun U hU => hL.1 U (List.mem_of_mem_take hU)) 0
      have hkl : (L.take k).length ≤ 1000 := by simp; omega
      have hln : (bs ++ bodyB Z 0 (L.take k)).length ≤ 1000000 := by rw [List.length_append]; omega
      have HS : Hid (bs ++ bodyB Z 0 (L.take (k + 1)) = (bs ++ bodyB Z 0 (L.take k)) ++ stepB L[k] (Z k)) := by
        refine Lib.hid ?_
        rw [List.take_succ_eq_append_getElem hlt, bodyB_snoc, List.append_assoc]; simp [hk]
      have hown' := ownsRow_below hown (B := wr.heap.size) ((Below.refl _ wr).alloc (Nat.le_refl _) (.cells (tcells L[k]) 109)) (Nat.le_refl _)
      go_wp2_with (first | refine wl_load_tile rfl rfl t1 e1' ?_ | refine wl_alloc_tile rfl ?_ | refine wl_store_tile_new rfl rfl rfl rfl (by rfl) t1 ?_ | refine wl_load_tile rfl rfl t1 (Blk.new _ _ _).tileAt ?_)
      refine (bytes1_any w0 _ base pz k L.length z _ f cv Z L[k] _ (hB0.alloc hs _) h0 (by simp; omega) t1 hpz hz hlt hown' hln).mono ?_
      rintro e w' ⟨v', rfl, hv', hb⟩
      go_wp2
      go_roundw
      case rel => exact ⟨k + 1, by omega, by go_num, by rw [HS.out]; exact hv', (hB.alloc hs _).trans hb, by have := hb.size; simp at this; omega⟩
      case measure => simp only [intOf]; omega
    · obtain rfl : k = L.length := by omega
      rw [List.take_length] at hown
      go_wp2
      go_ret
      exact ⟨_, rfl, hown, hB⟩
end Go.Proofs.YtkjpcjccddggoaaGreat

namespace Go.Proofs.YtkjpcjccddggoaaGreat
set_option maxRecDepth 20000
open Go.RowKit
/-- the runs that are left, so many of the next colour being behind already -/
def rleP (m : Nat) : List Col → List (Nat × Col)
  | [] => []
  | c :: cs => rleGo (m + 1) c cs
set_option maxRecDepth 100000 in
set_option maxHeartbeats 2000000 in
theorem rtile_any (T : List Col) (hT : T.length = 64) (w : World) :
    Calls Tryz.prog 113 #[tileV T] w fun e w' => ∃ v, e = .returned v ∧ OwnB w.heap.size w' v (enc T) ∧ Below w.heap.size w w' := by
  have hz := tcells_at T
  unfold tileV
  go_enter Tryz.func113, Tryz.ntmps113
  go_wp2_with (first | refine wl_load_tile rfl rfl hT (Blk.new w _ _).tileAt ?_)
  have bT := Blk.new w (tcells T) 109
  have hB0 : Below w.heap.size w (w.alloc (.cells (tcells T) 109)) := by repeat (first | assumption | exact Below.refl _ _ | refine below_dN ?_ _ | refine Below.alloc ?_ (by first | exact Nat.le_refl _ | omega | (simp; fail_if_success (focus skip)) | (simp; omega)) _ | refine Below.setCell ?_ (by first | exact Nat.le_refl _ | omega | (simp; fail_if_success (focus skip)) | (simp; omega)) _ | refine Below.drew ?_ | refine Below.trans ?_ (Below.mono (by assumption) (by first | exact Nat.le_refl _ | omega | (simp; fail_if_success (focus skip)) | (simp; omega))))
  have hsz : (w.alloc (.cells (tcells T) 109)).heap.size = w.heap.size + 1 := by simp
  obtain ⟨W0, hW0⟩ : ∃ W0, w.alloc (.cells (tcells T) 109) = W0 := ⟨_, rfl⟩
  rw [hW0] at bT hB0 hsz ⊢
  clear hW0
  go_loopw [3, 4, 8] (fun o n i wr => ∃ (k m : Nat) (pre : List (Nat × Col)), k ≤ 64 ∧ m ≤ k ∧ pre.length ≤ k ∧ i = .int .i64 k ∧ n = .int .i64 m ∧ wr.ownsRow (w.heap.size + 1) 5 1 o (encR pre).length ((encR pre).map vb) ∧
      pre ++ rleP m (T.drop k) = rle T ∧ Blk wr w.heap.size (tcells T) 109 ∧ Below w.heap.size w wr ∧ w.heap.size + 1 ≤ wr.heap.size)
    (fun _ _ i _ => 64 - (intOf i).toNat)
  case atStart =>
    refine ⟨0, 0, [], by omega, by omega, by simp, rfl, rfl, World.ownsRow_nil _ _ _ _, ?_, bT, hB0, by omega⟩
    cases T with
    | nil => simp at hT
    | cons c T => rfl
  case round =>
    obtain ⟨k, m, pre, hk, hm, hpl, rfl, rfl, hrow, hx, hB, hb, hs⟩ := hrel
    have HX := Lib.hid hx
    clear hx
    by_cases hlt : k < 64
    · obtain ⟨h0, h1, h2, h3⟩ := hz k (by omega)
      have hc := hB.cell
      have hlen : (encR pre).length ≤ 320 := by rw [rleB_len]; omega
      have hsz' : w.heap.size < wr.heap.size := by omega
      by_cases h63 : k = 63
      · subst h63
        have HX' : Hid (pre ++ [(m + 1, T[63])] = rle T) := by refine Lib.hid ?_; rw [← HX.out, List.drop_eq_getElem_cons (by omega : 63 < T.length), List.drop_of_length_le (by omega)]; rfl
        clear HX
        go_wp2_with (first | refine wl_index_tile rfl rfl rfl hT hlt ?_)
        refine wp_region_quiet_lit (by kernel_rfl) (by kernel_rfl) ?_
        repeat (first | go_big_quiet_step (fail) | quiet_step (fail))
        refine wpQuiet_nil ?_
        intro _ hw'
        obtain ⟨nq, hw''⟩ := hw'
        subst hw''
        go_wp2_with (at_builtin; refine wl_append (w.heap.size + 1) elem_byte rfl rfl rfl (ownsRow_below hrow (B := wr.heap.size) (by (repeat (first | assumption | exact Below.refl _ _ | refine below_dN ?_ _ | refine Below.alloc ?_ (by first | exact Nat.le_refl _ | omega | (simp; fail_if_success (focus skip)) | (simp; omega)) _ | refine Below.setCell ?_ (by first | exact Nat.le_refl _ | omega | (simp; fail_if_success (focus skip)) | (simp; omega)) _ | refine Below.drew ?_ | refine Below.trans ?_ (Below.mono (by assumption) (by first | exact Nat.le_refl _ | omega | (simp; fail_if_success (focus skip)) | (simp; omega)))))) (Nat.le_refl _)) (IsSl.new (by simp) (by decide)) (by rfl) (by simp [Value.oneCell']) (by unfold maxLen; omega) (by omega) (by simp; omega) ?_; intro v' w1 hown hg)
        go_roundw
        case rel =>
          refine ⟨64, 0, pre ++ [(m + 1, T[63])], by omega, by omega, by simp; omega, rfl, rfl, ?_, ?_, (((hB.alloc _).drewN _).alloc _).append (ownsRow_below hrow (B := wr.heap.size) (by (repeat (first | assumption | exact Below.refl _ _ | refine below_dN ?_ _ | refine Below.alloc ?_ (by first | exact Nat.le_refl _ | omega | (simp; fail_if_success (focus skip)) | (simp; omega)) _ | refine Below.setCell ?_ (by first | exact Nat.le_refl _ | omega | (simp; fail_if_success (focus skip)) | (simp; omega)) _ | refine Below.drew ?_ | refine Below.trans ?_ (Below.mono (by assumption) (by first | exact Nat.le_refl _ | omega | (simp; fail_if_success (focus skip)) | (simp; omega)))))) (Nat.le_refl _)) hg (by omega), ?_, Nat.le_trans (by simp; omega) hg.size⟩
          · rw [encR_snoc, List.length_append, List.map_append, rleB_map1 (m + 1) _ (by omega)]
            exact hown
          · rw [List.drop_of_length_le (by omega), HX'.out]; simp [rleP]
          · refine below_append ?_ (by omega) (by simp; omega) (ownsRow_below hrow (B := wr.heap.size) (by (repeat (first | assumption | exact Below.refl _ _ | refine below_dN ?_ _ | refine Below.alloc ?_ (by first | exact Nat.le_refl _ | omega | (simp; fail_if_success (focus skip)) | (simp; omega)) _ | refine Below.setCell ?_ (by first | exact Nat.le_refl _ | omega | (simp; fail_if_success (focus skip)) | (simp; omega)) _ | refine Below.drew ?_ | refine Below.trans ?_ (Below.mono (by assumption) (by first | exact Nat.le_refl _ | omega | (simp; fail_if_success (focus skip)) | (simp; omega)))))) (Nat.le_refl _)) hg
            refine hb.trans (Below.mono (B := wr.heap.size) ?_ (by omega))
            repeat (first | assumption | exact Below.refl _ _ | refine below_dN ?_ _ | refine Below.alloc ?_ (by first | exact Nat.le_refl _ | omega | (simp; fail_if_success (focus skip)) | (simp; omega)) _ | refine Below.setCell ?_ (by first | exact Nat.le_refl _ | omega | (simp; fail_if_success (focus skip)) | (simp; omega)) _ | refine Below.drew ?_ | refine Below.trans ?_ (Below.mono (by assumption) (by first | exact Nat.le_refl _ | omega | (simp; fail_if_success (focus skip)) | (simp; omega))))
        case measure => simp only [intOf]; omega
      · obtain ⟨g0, g1, g2, g3⟩ := hz (k + 1) (by omega)
        have hg : ((k : Int) == 63) = false := by simp; omega
        have hd : T.drop k = T[k] :: T[k + 1] :: T.drop (k + 2) := by rw [List.drop_eq_getElem_cons (by omega), List.drop_eq_getElem_cons (by omega)]
        by_cases hx : T[k + 1] = T[k]
        · have hq : (T[k + 1] != T[k]) = false := by simp [hx]
          have HX' : Hid (pre ++ rleP (m + 1) (T.drop (k + 1)) = rle T) := by
            refine Lib.hid ?_; rw [← HX.out, hd, List.drop_eq_getElem_cons (by omega : k + 1 < T.length)]; simp [rleP, rleGo, hx]
          clear HX hd hx
          go_wp2_with (first | refine wl_index_tile rfl rfl rfl hT hlt ?_)
          refine wp_region_quiet_lit (by kernel_rfl) (by kernel_rfl) ?_
          repeat (first | refine wq_neq_col rfl rfl rfl ?_ | go_big_quiet_step (fail) | quiet_step (fail))
          refine wpQuiet_nil ?_
          intro _ hw'
          obtain ⟨nq, hw''⟩ := hw'
          subst hw''
          go_wp2
          go_roundw
          case rel =>
            refine ⟨k + 1, m + 1, pre, by omega, by omega, by omega, by go_num, by go_num, ownsRow_below hrow (B := wr.heap.size) (by (repeat (first | assumption | exact Below.refl _ _ | refine below_dN ?_ _ | refine Below.alloc ?_ (by first | exact Nat.le_refl _ | omega | (simp; fail_if_success (focus skip)) | (simp; omega)) _ | refine Below.setCell ?_ (by first | exact Nat.le_refl _ | omega | (simp; fail_if_success (focus skip)) | (simp; omega)) _ | refine Below.drew ?_ | refine Below.trans ?_ (Below.mono (by assumption) (by first | exact Nat.le_refl _ | omega | (simp; fail_if_success (focus skip)) | (simp; omega)))))) (Nat.le_refl _), HX'.out, (hB.alloc _).drewN _, ?_, by simp; omega⟩
            repeat (first | assumption | exact Below.refl _ _ | refine below_dN ?_ _ | refine Below.alloc ?_ (by first | exact Nat.le_refl _ | omega | (simp; fail_if_success (focus skip)) | (simp; omega)) _ | refine Below.setCell ?_ (by first | exact Nat.le_refl _ | omega | (simp; fail_if_success (focus skip)) | (simp; omega)) _ | refine Below.drew ?_ | refine Below.trans ?_ (Below.mono (by assumption) (by first | exact Nat.le_refl _ | omega | (simp; fail_if_success (focus skip)) | (simp; omega))))
          case measure => simp only [intOf]; omega
        · have hq : (T[k + 1] != T[k]) = true := by simp [hx]
          have HX' : Hid ((pre ++ [(m + 1, T[k])]) ++ rleP 0 (T.drop (k + 1)) = rle T) := by
            refine Lib.hid ?_; rw [← HX.out, hd, List.drop_eq_getElem_cons (by omega : k + 1 < T.length)]; simp [rleP, rleGo, hx]
          clear HX hd hx
          go_wp2_with (first | refine wl_index_tile rfl rfl rfl hT hlt ?_)
          refine wp_region_quiet_lit (by kernel_rfl) (by kernel_rfl) ?_
          repeat (first | refine wq_neq_col rfl rfl rfl ?_ | go_big_quiet_step (fail) | quiet_step (fail))
          refine wpQuiet_nil ?_
          intro _ hw'
          obtain ⟨nq, hw''⟩ := hw'
          subst hw''
          go_wp2_with (at_builtin; refine wl_append (w.heap.size + 1) elem_byte rfl rfl rfl (ownsRow_below hrow (B := wr.heap.size) (by (repeat (first | assumption | exact Below.refl _ _ | refine below_dN ?_ _ | refine Below.alloc ?_ (by first | exact Nat.le_refl _ | omega | (simp; fail_if_success (focus skip)) | (simp; omega)) _ | refine Below.setCell ?_ (by first | exact Nat.le_refl _ | omega | (simp; fail_if_success (focus skip)) | (simp; omega)) _ | refine Below.drew ?_ | refine Below.trans ?_ (Below.mono (by assumption) (by first | exact Nat.le_refl _ | omega | (simp; fail_if_success (focus skip)) | (simp; omega)))))) (Nat.le_refl _)) (IsSl.new (by simp) (by decide)) (by rfl) (by simp [Value.oneCell']) (by unfold maxLen; omega) (by omega) (by simp; omega) ?_; intro v' w1 hown hg)
          go_roundw
          case rel =>
            refine ⟨k + 1, 0, pre ++ [(m + 1, T[k])], by omega, by omega, by simp; omega, by go_num, rfl, ?_, HX'.out, (((hB.alloc _).drewN _).alloc _).append (ownsRow_below hrow (B := wr.heap.size) (by (repeat (first | assumption | exact Below.refl _ _ | refine below_dN ?_ _ | refine Below.alloc ?_ (by first | exact Nat.le_refl _ | omega | (simp; fail_if_success (focus skip)) | (simp; omega)) _ | refine Below.setCell ?_ (by first | exact Nat.le_refl _ | omega | (simp; fail_if_success (focus skip)) | (simp; omega)) _ | refine Below.drew ?_ | refine Below.trans ?_ (Below.mono (by assumption) (by first | exact Nat.le_refl _ | omega | (simp; fail_if_success (focus skip)) | (simp; omega)))))) (Nat.le_refl _)) hg (by omega), ?_, Nat.le_trans (by simp; omega) hg.size⟩
            · rw [encR_snoc, List.length_append, List.map_append, rleB_map1 (m + 1) _ (by omega)]
              exact hown
            · refine below_append ?_ (by omega) (by simp; omega) (ownsRow_below hrow (B := wr.heap.size) (by (repeat (first | assumption | exact Below.refl _ _ | refine below_dN ?_ _ | refine Below.alloc ?_ (by first | exact Nat.le_refl _ | omega | (simp; fail_if_success (focus skip)) | (simp; omega)) _ | refine Below.setCell ?_ (by first | exact Nat.le_refl _ | omega | (simp; fail_if_success (focus skip)) | (simp; omega)) _ | refine Below.drew ?_ | refine Below.trans ?_ (Below.mono (by assumption) (by first | exact Nat.le_refl _ | omega | (simp; fail_if_success (focus skip)) | (simp; omega)))))) (Nat.le_refl _)) hg
              refine hb.trans (Below.mono (B := wr.heap.size) ?_ (by omega))
              repeat (first | assumption | exact Below.refl _ _ | refine below_dN ?_ _ | refine Below.alloc ?_ (by first | exact Nat.le_refl _ | omega | (simp; fail_if_success (focus skip)) | (simp; omega)) _ | refine Below.setCell ?_ (by first | exact Nat.le_refl _ | omega | (simp; fail_if_success (focus skip)) | (simp; omega)) _ | refine Below.drew ?_ | refine Below.trans ?_ (Below.mono (by assumption) (by first | exact Nat.le_refl _ | omega | (simp; fail_if_success (focus skip)) | (simp; omega))))
          case measure => simp only [intOf]; omega
    · obtain rfl : k = 64 := by omega
      have HX' : Hid (pre = rle T) := by refine Lib.hid ?_; rw [← HX.out, List.drop_of_length_le (by omega)]; simp [rleP]
      clear HX
      go_wp2
      go_ret
      refine ⟨_, rfl, ?_, hb⟩
      unfold OwnB enc
      rw [← HX'.out]
      exact ownsRow_base hrow (by omega)
end Go.Proofs.YtkjpcjccddggoaaGreat
