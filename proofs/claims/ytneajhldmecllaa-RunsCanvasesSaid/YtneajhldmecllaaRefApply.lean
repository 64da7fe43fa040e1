/- gessoref10.Apply. -/
import Derived.Test.YtneajhldmecllaaRefRdCan
namespace Go.Proofs.Ytneajhldmecllaa
open Go.RowKit

theorem zeroOf_some (O : List (List Col)) (h : 0 < O.length) : zeroOf O = oldF O := by
  funext A
  unfold zeroOf
  rw [if_pos h]

set_option maxRecDepth 100000 in
set_option maxHeartbeats 2000000 in
theorem refapply_any (X Y : Nat) (ov b : Value) (O : List (List Col)) (l : List UInt8) (w : World) (hX : X ≤ 4) (hY : Y ≤ 4) (hO : Tiles w ov O) (hOl : O.length = X * Y) (hO0 : 0 < O.length) (hb : Bytes w b l) (hl : l.length ≤ 100000) :
    Calls Try.prog 29 #[canV X Y ov, b] w fun e w' => Below w.heap.size w w' ∧ RefCan w w' e (readApp X Y O l) := by
  have hb' := hb
  obtain ⟨ab, cb, rfl, hcb, hmb, hnb, rb⟩ := hb'
  obtain ⟨ao, co, rfl, hco, hmo⟩ := hO.slice
  unfold maxLen at hmb hmo
  have hxy := Nat.mul_le_mul hX hY
  have k0 := (Blk.new w #[.int .i64 X, .int .i64 Y, .slice ao O.length co] 43).alloc (.cells #[.int .i64 0, .int .i64 0, .slice none 0 0] 43)
  have k1 := Blk.new (w.alloc (.cells #[.int .i64 X, .int .i64 Y, .slice ao O.length co] 43)) #[.int .i64 0, .int .i64 0, .slice none 0 0] 43
  simp only [World.size_alloc] at k1
  have hB1 : Below w.heap.size w ((w.alloc (.cells #[.int .i64 X, .int .i64 Y, .slice ao O.length co] 43)).alloc (.cells #[.int .i64 0, .int .i64 0, .slice none 0 0] 43)) := by repeat (first | assumption | exact Below.refl _ _ | refine below_dN ?_ _ | refine Below.alloc ?_ (by first | exact Nat.le_refl _ | omega | (simp; done) | (simp; omega)) _ | refine Below.setCell ?_ (by first | exact Nat.le_refl _ | omega | (simp; done) | (simp; omega)) _ | refine Below.drew ?_ | refine Below.trans ?_ (Below.mono (by assumption) (by first | exact Nat.le_refl _ | omega | (simp; done) | (simp; omega))))
  have hb1 := hb.below hB1
  have hO1 := hO.below hB1
  obtain ⟨W1, hW1⟩ : ∃ W1, (w.alloc (.cells #[.int .i64 X, .int .i64 Y, .slice ao O.length co] 43)).alloc (.cells #[.int .i64 0, .int .i64 0, .slice none 0 0] 43) = W1 := ⟨_, rfl⟩
  have HOL := Lib.hid hOl
  clear hOl
  match l, hb, hl, hcb, hb1 with
  | [], _, _, _, _ =>
    rw [hW1] at k0 k1 hB1
    obtain ⟨q1, q2, q3⟩ := k0.all
    obtain ⟨q4, q5, q6⟩ := k1.all
    go_enter Try.func29, Try.ntmps29
    go_wp2
    clear hW1
    refine wp_region_cuts [.q [_, _, _, _, _, _, _, _, _, _, _, _, _, _, _, _, _, _, _]] [_, _] rfl (fun w'' => Below W1.heap.size W1 w'') (by kernel_rfl) (by kernel_rfl) (fun _ _ d _ _ h => by cases d <;> exact h) ?_
    refine cut_q (Below.refl _ W1).drew ?_
    repeat (first | go_big_quiet_step ((intros; rfl)) | quiet_step ((intros; rfl)) | fail | (refine wq_loadB rfl rfl (by kernel_rfl) (by assumption) ?_; simp only [Act.put, List.setIfInBounds_toArray, List.set_cons_succ, List.set_cons_zero]))
    refine wpQuiet_nil ?_
    refine cut_end ?_
    go_wp2
    have k2 := (((Blk.drew k1).set 0 (.int .i64 0)).set 1 (.int .i64 0)).set 2 (.slice none 0 0)
    refine bodyPost_ret (results_can2 (p := 4) (u := 5) (by kernel_rfl) _ _ (w.heap.size + 1) 43 (.int .i64 0) (.int .i64 0) (.slice none 0 0) rfl k2) rfl ?_
    have hB2 := Below.drew hB1
    refine ⟨?_, rfl⟩
    repeat (first | assumption | exact Below.refl _ _ | refine below_dN ?_ _ | refine Below.alloc ?_ (by first | exact Nat.le_refl _ | omega | (simp; done) | (simp; omega)) _ | refine Below.setCell ?_ (by first | exact Nat.le_refl _ | omega | (simp; done) | (simp; omega)) _ | refine Below.drew ?_ | refine Below.trans ?_ (Below.mono (by assumption) (by first | exact Nat.le_refl _ | omega | (simp; done) | (simp; omega))))
  | [x], _, _, _, _ =>
    rw [hW1] at k0 k1 hB1
    obtain ⟨q1, q2, q3⟩ := k0.all
    obtain ⟨q4, q5, q6⟩ := k1.all
    go_enter Try.func29, Try.ntmps29
    go_wp2
    clear hW1
    refine wp_region_cuts [.q [_, _, _, _, _, _, _, _, _, _, _, _, _, _, _, _, _, _, _]] [_, _] rfl (fun w'' => Below W1.heap.size W1 w'') (by kernel_rfl) (by kernel_rfl) (fun _ _ d _ _ h => by cases d <;> exact h) ?_
    refine cut_q (Below.refl _ W1).drew ?_
    repeat (first | go_big_quiet_step ((intros; rfl)) | quiet_step ((intros; rfl)) | fail | (refine wq_loadB rfl rfl (by kernel_rfl) (by assumption) ?_; simp only [Act.put, List.setIfInBounds_toArray, List.set_cons_succ, List.set_cons_zero]))
    refine wpQuiet_nil ?_
    refine cut_end ?_
    go_wp2
    have k2 := (((Blk.drew k1).set 0 (.int .i64 0)).set 1 (.int .i64 0)).set 2 (.slice none 0 0)
    refine bodyPost_ret (results_can2 (p := 4) (u := 5) (by kernel_rfl) _ _ (w.heap.size + 1) 43 (.int .i64 0) (.int .i64 0) (.slice none 0 0) rfl k2) rfl ?_
    have hB2 := Below.drew hB1
    refine ⟨?_, rfl⟩
    repeat (first | assumption | exact Below.refl _ _ | refine below_dN ?_ _ | refine Below.alloc ?_ (by first | exact Nat.le_refl _ | omega | (simp; done) | (simp; omega)) _ | refine Below.setCell ?_ (by first | exact Nat.le_refl _ | omega | (simp; done) | (simp; omega)) _ | refine Below.drew ?_ | refine Below.trans ?_ (Below.mono (by assumption) (by first | exact Nat.le_refl _ | omega | (simp; done) | (simp; omega))))
  | x :: y :: rest, hb, hl, hcb, hb1 =>
    obtain ⟨bb, oo, rfl, c0⟩ := hb1.get 0 (by simp)
    obtain ⟨_, _, e1, c1⟩ := hb1.get 1 (by simp)
    cases e1
    simp only [List.getElem_cons_zero, List.getElem_cons_succ, Nat.add_zero] at c0 c1
    have hx256 : x.toNat < 256 := x.toNat_lt
    have hy256 : y.toNat < 256 := y.toNat_lt
    have hq2 : decide (((x :: y :: rest).length : Int) < 2) = false := by simp; omega
    have hl1 : (1 : Int) < ((x :: y :: rest).length : Int) := by simp; omega
    have hl0 : (0 : Int) < ((x :: y :: rest).length : Int) := by simp; omega
    have hrc := readApp_cons X Y O x y rest
    obtain ⟨B, eB⟩ : ∃ B, x :: y :: rest = B := ⟨_, rfl⟩
    have hdr : rest = B.drop 2 := by rw [← eB]; rfl
    rw [eB] at hb hl hcb hb1 hq2 hl1 hl0 hrc ⊢
    rw [hdr] at hrc
    clear eB hdr
    have hB2l : 2 ≤ B.length := by omega
    by_cases hx : x.toNat = X
    · have qx : ((x.toNat : Int) != (X : Int)) = false := by rw [bne_eq_false_iff_eq]; omega
      by_cases hy : y.toNat = Y
      · have qy : ((y.toNat : Int) != (Y : Int)) = false := by rw [bne_eq_false_iff_eq]; omega
        rw [if_pos ⟨hx, hy⟩] at hrc
        have HRC := Lib.hid hrc
        clear hrc hx hy
        rw [hW1] at k0 k1 hB1 c0 c1 hb1 hO1
        obtain ⟨q1, q2, q3⟩ := k0.all
        obtain ⟨q4, q5, q6⟩ := k1.all
        have e0 : W1.cell? ⟨w.heap.size, 0, none⟩ = some (.int .i64 X) := k0.cell 0
        have e1 : W1.cell? ⟨w.heap.size, 1, none⟩ = some (.int .i64 Y) := k0.cell 1
        go_enter Try.func29, Try.ntmps29
        go_wp2
        clear hW1
        refine wp_region_cuts [.q [_, _, _, _, _, _, _, _, _, _, _, _, _, _, _, _, _, _, _]] [_, _] rfl (fun w'' => Below W1.heap.size W1 w'') (by kernel_rfl) (by kernel_rfl) (fun _ _ d _ _ h => by cases d <;> exact h) ?_
        refine cut_q (Below.refl _ W1).drew ?_
        repeat (first | go_big_quiet_step ((intros; rfl)) | quiet_step ((intros; rfl)) | fail | (refine wq_loadB rfl rfl (by kernel_rfl) (by assumption) ?_; simp only [Act.put, List.setIfInBounds_toArray, List.set_cons_succ, List.set_cons_zero]))
        refine wpQuiet_nil ?_
        refine cut_end ?_
        go_wp2_with fail
        have hB1d : Below W1.heap.size W1 W1.drew := (Below.refl _ W1).drew
        refine (reftiles_any O.length _ _ B O _ (hb1.below hB1d) (hO1.below hB1d) hl hB2l (by have := HOL.out; omega) (fun _ => Nat.le_refl _)).mono ?_
        rintro e W4 ⟨hB4, he⟩
        rw [zeroOf_some O hO0] at he
        have hB34 := Below.up hB1d hB4
        have k4 := Blk.up k1 hB34
        have k3 := Blk.up k0 hB34
        have hB4w := Below.up hB1 hB34
        have k3s : w.heap.size + 2 ≤ W1.drew.heap.size := k1.lt
        clear hB1d hB1 k1 k0 hb1 c0 c1 hB4 q1 q2 q3 q4 q5 q6 e0 e1 hO1
        obtain ⟨q1, q2, q3⟩ := k3.all
        obtain ⟨q4, q5, q6⟩ := k4.all
        rw [← HOL.out] at HRC
        cases hr : readTs (oldF O) O.length [] (B.drop 2) with
        | none =>
          rw [hr] at he
          change e = .returned (.tuple #[.slice none 0 0, .int .i64 0]) at he
          subst he
          have HRN : Hid (readApp X Y O B = none) := by refine Lib.hid ?_; rw [HRC.out, hr]; rfl
          clear hr
          go_wp2
          have k5 := ((k4.set 0 (.int .i64 0)).set 1 (.int .i64 0)).set 2 (.slice none 0 0)
          refine bodyPost_ret (results_can2 (p := 4) (u := 5) (by kernel_rfl) _ _ (w.heap.size + 1) 43 (.int .i64 0) (.int .i64 0) (.slice none 0 0) rfl k5) rfl ?_
          rw [HRN.out]
          refine ⟨?_, rfl⟩
          repeat (first | assumption | exact Below.refl _ _ | refine below_dN ?_ _ | refine Below.alloc ?_ (by first | exact Nat.le_refl _ | omega | (simp; done) | (simp; omega)) _ | refine Below.setCell ?_ (by first | exact Nat.le_refl _ | omega | (simp; done) | (simp; omega)) _ | refine Below.drew ?_ | refine Below.trans ?_ (Below.mono (by assumption) (by first | exact Nat.le_refl _ | omega | (simp; done) | (simp; omega))))
        | some q =>
          obtain ⟨A, k⟩ := q
          rw [hr] at he
          obtain ⟨a4, c4, rfl, ho4⟩ := he
          have HRN : Hid (readApp X Y O B = some (X, Y, A, 2 + k)) := by refine Lib.hid ?_; rw [HRC.out, hr]; simp; omega
          clear hr
          have hk0 : (((2 + k : Nat) : Int) == 0) = false := by rw [beq_eq_false_iff_ne]; omega
          obtain ⟨n, hn⟩ : ∃ n, 2 + k = n := ⟨_, rfl⟩
          rw [hn] at HRN hk0 ⊢
          clear hn
          go_wp2
          have k5 := ((k4.set 0 (.int .i64 X)).set 1 (.int .i64 Y)).set 2 (.slice a4 A.length c4)
          refine bodyPost_ret (results_can2 (p := 4) (u := 5) (by kernel_rfl) _ _ (w.heap.size + 1) 43 (.int .i64 X) (.int .i64 Y) (.slice a4 A.length c4) rfl k5) rfl ?_
          rw [HRN.out]
          refine ⟨by repeat (first | assumption | exact Below.refl _ _ | refine below_dN ?_ _ | refine Below.alloc ?_ (by first | exact Nat.le_refl _ | omega | (simp; done) | (simp; omega)) _ | refine Below.setCell ?_ (by first | exact Nat.le_refl _ | omega | (simp; done) | (simp; omega)) _ | refine Below.drew ?_ | refine Below.trans ?_ (Below.mono (by assumption) (by first | exact Nat.le_refl _ | omega | (simp; done) | (simp; omega)))), a4, c4, rfl, ho4.1, ?_⟩
          have hg := gb_set (gb_set (gb_set (gb_refl W4 (some (w.heap.size + 1))) 0 (.int .i64 X)) 1 (.int .i64 Y)) 2 (.slice a4 A.length c4)
          exact ownsRow_base (ho4.2.kept hg (.inr (fun e => own_ne ho4.2 (b := w.heap.size + 1) (by omega) e.symm))) (by omega)
      · have qy : ((y.toNat : Int) != (Y : Int)) = true := by simpa using (by omega : ¬ (y.toNat : Int) = (Y : Int))
        rw [if_neg (fun h => hy h.2)] at hrc
        have HRC := Lib.hid hrc
        clear hrc hx hy
        rw [hW1] at k0 k1 hB1 c0 c1
        obtain ⟨q1, q2, q3⟩ := k0.all
        obtain ⟨q4, q5, q6⟩ := k1.all
        have e0 : W1.cell? ⟨w.heap.size, 0, none⟩ = some (.int .i64 X) := k0.cell 0
        have e1 : W1.cell? ⟨w.heap.size, 1, none⟩ = some (.int .i64 Y) := k0.cell 1
        go_enter Try.func29, Try.ntmps29
        go_wp2
        clear hW1
        refine wp_region_cuts [.q [_, _, _, _, _, _, _, _, _, _, _, _, _, _, _, _, _, _, _]] [_, _] rfl (fun w'' => Below W1.heap.size W1 w'') (by kernel_rfl) (by kernel_rfl) (fun _ _ d _ _ h => by cases d <;> exact h) ?_
        refine cut_q (Below.refl _ W1).drew ?_
        repeat (first | go_big_quiet_step ((intros; rfl)) | quiet_step ((intros; rfl)) | fail | (refine wq_loadB rfl rfl (by kernel_rfl) (by assumption) ?_; simp only [Act.put, List.setIfInBounds_toArray, List.set_cons_succ, List.set_cons_zero]))
        refine wpQuiet_nil ?_
        refine cut_end ?_
        go_wp2
        have k2 := (((Blk.drew k1).set 0 (.int .i64 0)).set 1 (.int .i64 0)).set 2 (.slice none 0 0)
        refine bodyPost_ret (results_can2 (p := 4) (u := 5) (by kernel_rfl) _ _ (w.heap.size + 1) 43 (.int .i64 0) (.int .i64 0) (.slice none 0 0) rfl k2) rfl ?_
        rw [HRC.out]
        have hB2 := Below.drew hB1
        refine ⟨?_, rfl⟩
        repeat (first | assumption | exact Below.refl _ _ | refine below_dN ?_ _ | refine Below.alloc ?_ (by first | exact Nat.le_refl _ | omega | (simp; done) | (simp; omega)) _ | refine Below.setCell ?_ (by first | exact Nat.le_refl _ | omega | (simp; done) | (simp; omega)) _ | refine Below.drew ?_ | refine Below.trans ?_ (Below.mono (by assumption) (by first | exact Nat.le_refl _ | omega | (simp; done) | (simp; omega))))
    · have qx : ((x.toNat : Int) != (X : Int)) = true := by simpa using (by omega : ¬ (x.toNat : Int) = (X : Int))
      rw [if_neg (fun h => hx h.1)] at hrc
      have HRC := Lib.hid hrc
      clear hrc hx
      rw [hW1] at k0 k1 hB1 c0 c1
      obtain ⟨q1, q2, q3⟩ := k0.all
      obtain ⟨q4, q5, q6⟩ := k1.all
      have e0 : W1.cell? ⟨w.heap.size, 0, none⟩ = some (.int .i64 X) := k0.cell 0
      have e1 : W1.cell? ⟨w.heap.size, 1, none⟩ = some (.int .i64 Y) := k0.cell 1
      go_enter Try.func29, Try.ntmps29
      go_wp2
      clear hW1
      refine wp_region_cuts [.q [_, _, _, _, _, _, _, _, _, _, _, _, _, _, _, _, _, _, _]] [_, _] rfl (fun w'' => Below W1.heap.size W1 w'') (by kernel_rfl) (by kernel_rfl) (fun _ _ d _ _ h => by cases d <;> exact h) ?_
      refine cut_q (Below.refl _ W1).drew ?_
      repeat (first | go_big_quiet_step ((intros; rfl)) | quiet_step ((intros; rfl)) | fail | (refine wq_loadB rfl rfl (by kernel_rfl) (by assumption) ?_; simp only [Act.put, List.setIfInBounds_toArray, List.set_cons_succ, List.set_cons_zero]))
      refine wpQuiet_nil ?_
      refine cut_end ?_
      go_wp2
      have k2 := (((Blk.drew k1).set 0 (.int .i64 0)).set 1 (.int .i64 0)).set 2 (.slice none 0 0)
      refine bodyPost_ret (results_can2 (p := 4) (u := 5) (by kernel_rfl) _ _ (w.heap.size + 1) 43 (.int .i64 0) (.int .i64 0) (.slice none 0 0) rfl k2) rfl ?_
      rw [HRC.out]
      have hB2 := Below.drew hB1
      refine ⟨?_, rfl⟩
      repeat (first | assumption | exact Below.refl _ _ | refine below_dN ?_ _ | refine Below.alloc ?_ (by first | exact Nat.le_refl _ | omega | (simp; done) | (simp; omega)) _ | refine Below.setCell ?_ (by first | exact Nat.le_refl _ | omega | (simp; done) | (simp; omega)) _ | refine Below.drew ?_ | refine Below.trans ?_ (Below.mono (by assumption) (by first | exact Nat.le_refl _ | omega | (simp; done) | (simp; omega))))

end Go.Proofs.Ytneajhldmecllaa
