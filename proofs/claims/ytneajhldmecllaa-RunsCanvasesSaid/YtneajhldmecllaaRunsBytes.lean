/- runs: told over bytes, bytes, ahead. -/
import Derived.Test.YtneajhldmecllaaRunsSize
import Derived.Test.YtneajhldmecllaaRunsSmall
namespace Go.Proofs.Ytneajhldmecllaa
open Go.RowKit

/-- what a tile comes to, if another one is the zero of its place -/
def stepB (T Z : List Col) : List UInt8 := if T = Z then [0] else enc T
def bodyB (Z : Nat → List Col) : Nat → List (List Col) → List UInt8
  | _, [] => []
  | k, T :: L => stepB T (Z k) ++ bodyB Z (k + 1) L
theorem bodyB_snoc (Z : Nat → List Col) (L : List (List Col)) (T : List Col) : ∀ k, bodyB Z k (L ++ [T]) = bodyB Z k L ++ stepB T (Z (k + L.length)) := by
  induction L with
  | nil => intro k; simp [bodyB]
  | cons U L ih => intro k; rw [List.cons_append, bodyB, bodyB, ih, List.append_assoc, show k + 1 + L.length = k + (U :: L).length from by simp; omega]
theorem stepB_len (T Z : List Col) (hT : T.length = 64) : (stepB T Z).length ≤ 325 := by
  unfold stepB
  split
  · simp
  · rw [enc_len T hT]; have := runsOf_le T hT; omega
theorem bodyB_len (Z : Nat → List Col) (L : List (List Col)) (h : All64 L) : ∀ k, (bodyB Z k L).length ≤ 325 * L.length := by
  induction L with
  | nil => intro k; simp [bodyB]
  | cons T L ih =>
    intro k
    have := ih (fun U hU => h U (by simp [hU])) (k + 1)
    have := stepB_len T (Z k) (h T (by simp))
    rw [bodyB, List.length_append]; simp; omega

/-- a closure that tells the zero of each place -/
structure ZeroFn (w0 : World) (z : Value) (Z : Nat → List Col) (n : Nat) (f : FuncId) (cv : Value) : Prop where
  val : z = .func (.func f) #[] #[cv]
  enters : ∀ (i : Value) (w : World), (callFunc f #[i, cv]).run Try.prog w = .ok (.enter f #[i, cv]) w
  len : ∀ i, i < n → (Z i).length = 64
  tells : ∀ w, Below w0.heap.size w0 w → ∀ i, i < n → Calls Try.prog f #[.int .i64 i, cv] w fun e w' => e = .returned (tileV (Z i)) ∧ Below w.heap.size w w'

set_option maxRecDepth 100000 in
set_option maxHeartbeats 2000000 in
theorem bytes1_any (w0 w : World) (base pz i n : Nat) (z bv : Value) (f : FuncId) (cv : Value) (Z : Nat → List Col) (T : List Col) (bs : List UInt8) (hw : Below base w0 w) (h0 : w0.heap.size ≤ base) (hbs : base ≤ w.heap.size) (hT : T.length = 64)
    (hpz : Blk w0 pz #[z] 78) (hz : ZeroFn w0 z Z n f cv) (hi : i < n) (ho : OwnB base w bv bs) (hlen : bs.length ≤ 1000000) :
    Calls Try.prog 59 #[bv, .int .i64 i, tileV T, .pointer (some ⟨pz, 0, none⟩)] w fun e w' => ∃ v', e = .returned v' ∧ OwnB base w' v' (bs ++ stepB T (Z i)) ∧ Below base w w' := by
  obtain ⟨hzv, hen, hzl, htl⟩ := hz
  subst hzv
  have hlt := hpz.lt
  have hp := (hpz.below hw (by omega)).alloc (.cells (tcells T) 29)
  have hnew := Blk.new w (tcells T) 29
  have hB1 : Below base w (w.alloc (.cells (tcells T) 29)) := by repeat (first | assumption | exact Below.refl _ _ | refine below_dN ?_ _ | refine Below.alloc ?_ (by first | exact Nat.le_refl _ | omega | (simp; done) | (simp; omega)) _ | refine Below.setCell ?_ (by first | exact Nat.le_refl _ | omega | (simp; done) | (simp; omega)) _ | refine Below.drew ?_ | refine Below.trans ?_ (Below.mono (by assumption) (by first | exact Nat.le_refl _ | omega | (simp; done) | (simp; omega))))
  have hs1 : w.heap.size + 1 = (w.alloc (.cells (tcells T) 29)).heap.size := by simp
  have ho1 := ownsRow_below ho (B := w.heap.size) ((Below.refl _ w).alloc (Nat.le_refl _) (.cells (tcells T) 29)) (Nat.le_refl _)
  obtain ⟨ad, cc, rfl, hc1, hc2⟩ := ownsRow_slice ho
  unfold tileV
  go_enter Try.func59, Try.ntmps59
  go_wp2
  obtain ⟨W1, hW1⟩ : ∃ W1, w.alloc (.cells (tcells T) 29) = W1 := ⟨_, rfl⟩
  rw [hW1] at hp hnew hB1 hs1 ho1 ⊢
  clear hW1
  have hpc := hp.cell 0
  simp only [List.getElem?_toArray, List.getElem?_cons_zero] at hpc
  refine wp_region_cuts [.q [_, _, _], .e _] [_] rfl (fun w'' => Below W1.heap.size W1 w'') (by kernel_rfl) (by kernel_rfl) (fun _ _ d _ _ h => by cases d <;> exact h) ?_
  refine cut_q (by (repeat (first | assumption | exact Below.refl _ _ | refine below_dN ?_ _ | refine Below.alloc ?_ (by first | exact Nat.le_refl _ | omega | (simp; done) | (simp; omega)) _ | refine Below.setCell ?_ (by first | exact Nat.le_refl _ | omega | (simp; done) | (simp; omega)) _ | refine Below.drew ?_ | refine Below.trans ?_ (Below.mono (by assumption) (by first | exact Nat.le_refl _ | omega | (simp; done) | (simp; omega)))))) ?_
  repeat (first | go_big_quiet_step ((intros; rfl)) | quiet_step ((intros; rfl)) | (refine wq_load_tile rfl rfl hT (fun w'' hC => (hnew.below hC hnew.lt).tileAt) ?_; simp only [Act.put, List.setIfInBounds_toArray, List.set_cons_succ, List.set_cons_zero]) | (refine wq_loadB rfl rfl (by kernel_rfl) (by assumption) ?_; simp only [Act.put, List.setIfInBounds_toArray, List.set_cons_succ, List.set_cons_zero]))
  refine wpQuiet_nil ?_
  refine cut_e ?_
  have hd0 : Below w0.heap.size w0 W1.drew := (hw.mono h0).trans ((hB1.mono h0).trans (Below.refl _ W1).drew)
  go_wp2
  refine (htl W1.drew hd0 i hi).mono ?_
  rintro e w2 ⟨rfl, hb2⟩
  have hb2' : Below W1.heap.size W1 w2 := ((Below.refl _ W1).drew).trans hb2
  have hs2 := hb2'.size
  clear hd0
  go_wp2
  refine ⟨hb2', ?_⟩
  refine cut_end ?_
  have ho2 : OwnB base w2 (.slice ad bs.length cc) bs := ownsRow_below ho1 (B := W1.heap.size) hb2' (Nat.le_refl _)
  have hn2 := hnew.below hb2' hnew.lt
  have hB2 : Below base w w2 := hB1.trans (hb2'.mono (by omega))
  by_cases hx : T = Z i
  · have hq : (T == Z i) = true := by simpa using hx
    have hst : Hid (stepB T (Z i) = [0]) := by refine Lib.hid ?_; unfold stepB; rw [if_pos hx]
    clear hx
    go_wp2_with (first | (refine wl_eql_tile rfl rfl rfl hT (hzl i hi) ?_; rw [hq]) | (refine wl_append base elem_byte rfl rfl rfl (ownsRow_below ho2 (B := w2.heap.size) ((Below.refl _ w2).alloc (Nat.le_refl _) _) (Nat.le_refl _)) (IsSl.new (by simp) (by decide)) (by rfl) (by simp [Value.oneCell']) (by unfold maxLen; omega) (by omega) (by simp; omega) ?_; intro v' w3 hown hg))
    go_ret
    refine ⟨_, rfl, by unfold OwnB; rw [hst.out, List.length_append, List.map_append]; exact hown, ?_⟩
    exact below_append (hB2.alloc (by omega) _) (Nat.le_refl _) (by simp; omega) (ownsRow_below ho2 (B := w2.heap.size) ((Below.refl _ w2).alloc (Nat.le_refl _) _) (Nat.le_refl _)) hg
  · have hq : (T == Z i) = false := by simpa using hx
    have hel : (enc T).length ≤ 325 := by rw [enc_len T hT]; have := runsOf_le T hT; omega
    have hst : Hid (stepB T (Z i) = enc T) := by refine Lib.hid ?_; unfold stepB; rw [if_neg hx]
    clear hx
    go_wp2_with (first | (refine wl_eql_tile rfl rfl rfl hT (hzl i hi) ?_; rw [hq]) | refine wl_load_tile rfl rfl hT hn2.tileAt ?_ | (go_at_call 10; refine (tile_any T hT _).mono ?_; rintro e w3 ⟨v3, rfl, hown3, hb3⟩) | (refine wl_append base elem_byte rfl rfl rfl (ownsRow_below ho2 (B := w2.heap.size) hb3 (Nat.le_refl _)) (IsSl.of_own hown3) (by simp) (one_bytes _) (by unfold maxLen; omega) (by omega) (by have := hb3.size; omega) ?_; intro v' w4 hown hg))
    go_ret
    refine ⟨_, rfl, by unfold OwnB; rw [hst.out, List.length_append, List.map_append]; exact hown, ?_⟩
    exact below_append (hB2.trans (hb3.mono (by omega))) (Nat.le_refl _) (by have := hb3.size; omega) (ownsRow_below ho2 (B := w2.heap.size) hb3 (Nat.le_refl _)) hg

set_option maxRecDepth 100000 in
set_option maxHeartbeats 2000000 in
theorem told_bytes (w0 w : World) (base pz : Nat) (z bv v : Value) (f : FuncId) (cv : Value) (Z : Nat → List Col) (L : List (List Col)) (bs : List UInt8) (hw : Below base w0 w) (h0 : w0.heap.size ≤ base) (hbs : base ≤ w.heap.size)
    (hL : Tiles w0 v L) (hl : L.length ≤ 1000) (hpz : Blk w0 pz #[z] 78) (hz : ZeroFn w0 z Z L.length f cv) (ho : OwnB base w bv bs) (hlen : bs.length ≤ 1000) :
    Calls Try.prog 58 #[bv, v, .func (.func 59) #[] #[.pointer (some ⟨pz, 0, none⟩)]] w fun e w' => ∃ v', e = .returned v' ∧ OwnB base w' v' (bs ++ bodyB Z 0 L) ∧ Below base w w' := by
  obtain ⟨a1, c1, rfl, hc1, hm1⟩ := hL.slice
  go_enter Try.func58, Try.ntmps58
  go_wp2
  go_loopw [0, 11] (fun s i wr => ∃ k : Nat, k ≤ L.length ∧ i = .int .i64 k ∧ OwnB base wr s (bs ++ bodyB Z 0 (L.take k)) ∧ Below base w wr ∧ base ≤ wr.heap.size) (fun _ i _ => L.length - (intOf i).toNat)
  case atStart => exact ⟨0, by omega, rfl, by simpa [bodyB] using ho, Below.refl _ _, hbs⟩
  case round =>
    obtain ⟨k, hk, rfl, hown, hB, hs⟩ := hrel
    by_cases hlt : k < L.length
    · obtain ⟨b1, o1, rfl, e1, x1⟩ := hL.get k hlt
      have hB0 : Below base w0 wr := hw.trans hB
      have e1' := e1.below hB0 (by omega)
      have t1 : L[k].length = 64 := hL.1 _ (by simp)
      have hle := bodyB_len Z (L.take k) (fun U hU => hL.1 U (List.mem_of_mem_take hU)) 0
      have hkl : (L.take k).length ≤ 1000 := by simp; omega
      have hln : (bs ++ bodyB Z 0 (L.take k)).length ≤ 1000000 := by rw [List.length_append]; omega
      have HS : Hid (bs ++ bodyB Z 0 (L.take (k + 1)) = (bs ++ bodyB Z 0 (L.take k)) ++ stepB L[k] (Z k)) := by
        refine Lib.hid ?_
        rw [List.take_succ_eq_append_getElem hlt, bodyB_snoc, List.append_assoc]; simp [hk]
      have hown' := ownsRow_below hown (B := wr.heap.size) ((Below.refl _ wr).alloc (Nat.le_refl _) (.cells (tcells L[k]) 29)) (Nat.le_refl _)
      go_wp2_with (first | refine wl_load_tile rfl rfl t1 e1' ?_ | refine wl_alloc_tile rfl ?_ | refine wl_store_tile_new rfl rfl rfl rfl (by rfl) t1 ?_ | refine wl_load_tile rfl rfl t1 (Blk.new _ _ _).tileAt ?_)
      refine (bytes1_any w0 _ base pz k L.length z _ f cv Z L[k] _ (hB0.alloc hs _) h0 (by simp; omega) t1 hpz hz hlt hown' hln).mono ?_
      rintro e w' ⟨v', rfl, hv', hb⟩
      go_wp2
      go_roundw
      case rel => exact ⟨k + 1, by omega, by go_num, by rw [HS.out]; exact hv', (hB.alloc hs _).trans hb, by have := hb.size; simp at this; omega⟩
      case measure => simp only [intOf]; omega
    · obtain rfl : k = L.length := by omega
      rw [List.take_length] at hown
      go_wp2
      go_ret
      exact ⟨_, rfl, hown, hB⟩

end Go.Proofs.Ytneajhldmecllaa
