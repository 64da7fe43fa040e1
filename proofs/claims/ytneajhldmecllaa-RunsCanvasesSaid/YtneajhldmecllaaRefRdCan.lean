/- gessoref10.ReadCanvas. -/
import Derived.Test.YtneajhldmecllaaRefTiles
namespace Go.Proofs.Ytneajhldmecllaa
open Go.RowKit

theorem results_can2 {fn : Func} {p u : Tmp} (h : fn.results = #[.cell p 43, .tmp u]) (tmps : Array Value) (w : World) (b : Nat) (t : TypeId) (x y s : Value) (hp : tmps.getD p undef = .pointer (some ⟨b, 0, none⟩)) (hb : Blk w b #[x, y, s] t) :
    (results fn tmps).run Try.prog w = .ok (.tuple #[.agg #[x, y, s], tmps.getD u undef]) w := by
  have hp' : tmps[p]?.getD undef = .pointer (some ⟨b, 0, none⟩) := by simpa using hp
  have hl := run_loadVar_row (P := Try.prog) w b t 43 #[x, y, s] (0, 0) _ hb Try.underlying43 rfl can_hi
  simp [results, h, hp', asAddr, hl]

def RefCan (w w' : World) (e : Ending) : Option (Nat × Nat × List (List Col) × Nat) → Prop
  | some (x, y, A, k) => ∃ a c, e = .returned (.tuple #[canV x y (.slice a A.length c), .int .i64 k]) ∧ OwnT w.heap.size w' (.slice a A.length c) A
  | none => e = .returned (.tuple #[canV 0 0 (.slice none 0 0), .int .i64 0])

theorem zeroOf_nil : zeroOf [] = aheadF := by
  funext A
  unfold zeroOf
  rw [if_neg (by simp)]

set_option maxRecDepth 100000 in
set_option maxHeartbeats 2000000 in
theorem refreadcan_any (b : Value) (l : List UInt8) (w : World) (hb : Bytes w b l) (hl : l.length ≤ 100000) :
    Calls Try.prog 26 #[b] w fun e w' => Below w.heap.size w w' ∧ RefCan w w' e (readCan l) := by
  have hb' := hb
  obtain ⟨ab, cb, rfl, hcb, hmb, hnb, rb⟩ := hb'
  unfold maxLen at hmb
  have k0 := Blk.new w #[.int .i64 0, .int .i64 0, .slice none 0 0] 43
  have hB1 := Below.new w (.cells #[.int .i64 0, .int .i64 0, .slice none 0 0] 43)
  have hb1 := hb.below hB1
  obtain ⟨W1, hW1⟩ : ∃ W1, w.alloc (.cells #[.int .i64 0, .int .i64 0, .slice none 0 0] 43) = W1 := ⟨_, rfl⟩
  match l, hb, hl, hcb, hb1 with
  | [], _, _, _, _ =>
    rw [hW1] at k0 hB1
    obtain ⟨q1, q2, q3⟩ := k0.all
    go_enter Try.func26, Try.ntmps26
    go_wp2
    clear hW1
    refine wp_region_cuts [.q [_, _, _, _, _, _, _, _, _, _, _, _]] [_, _, _] rfl (fun w'' => Below W1.heap.size W1 w'') (by kernel_rfl) (by kernel_rfl) (fun _ _ d _ _ h => by cases d <;> exact h) ?_
    refine cut_q (Below.refl _ W1).drew ?_
    repeat (first | go_big_quiet_step ((intros; rfl)) | quiet_step ((intros; rfl)) | fail | (refine wq_loadB rfl rfl (by kernel_rfl) (by assumption) ?_; simp only [Act.put, List.setIfInBounds_toArray, List.set_cons_succ, List.set_cons_zero]))
    refine wpQuiet_nil ?_
    refine cut_end ?_
    go_wp2
    have k1 := (((Blk.drew k0).set 0 (.int .i64 0)).set 1 (.int .i64 0)).set 2 (.slice none 0 0)
    refine bodyPost_ret (results_can2 (p := 2) (u := 3) (by kernel_rfl) _ _ w.heap.size 43 (.int .i64 0) (.int .i64 0) (.slice none 0 0) rfl k1) rfl ?_
    have hB2 := Below.drew hB1
    refine ⟨?_, rfl⟩
    repeat (first | assumption | exact Below.refl _ _ | refine below_dN ?_ _ | refine Below.alloc ?_ (by first | exact Nat.le_refl _ | omega | (simp; done) | (simp; omega)) _ | refine Below.setCell ?_ (by first | exact Nat.le_refl _ | omega | (simp; done) | (simp; omega)) _ | refine Below.drew ?_ | refine Below.trans ?_ (Below.mono (by assumption) (by first | exact Nat.le_refl _ | omega | (simp; done) | (simp; omega))))
  | [x], _, _, _, _ =>
    rw [hW1] at k0 hB1
    obtain ⟨q1, q2, q3⟩ := k0.all
    go_enter Try.func26, Try.ntmps26
    go_wp2
    clear hW1
    refine wp_region_cuts [.q [_, _, _, _, _, _, _, _, _, _, _, _]] [_, _, _] rfl (fun w'' => Below W1.heap.size W1 w'') (by kernel_rfl) (by kernel_rfl) (fun _ _ d _ _ h => by cases d <;> exact h) ?_
    refine cut_q (Below.refl _ W1).drew ?_
    repeat (first | go_big_quiet_step ((intros; rfl)) | quiet_step ((intros; rfl)) | fail | (refine wq_loadB rfl rfl (by kernel_rfl) (by assumption) ?_; simp only [Act.put, List.setIfInBounds_toArray, List.set_cons_succ, List.set_cons_zero]))
    refine wpQuiet_nil ?_
    refine cut_end ?_
    go_wp2
    have k1 := (((Blk.drew k0).set 0 (.int .i64 0)).set 1 (.int .i64 0)).set 2 (.slice none 0 0)
    refine bodyPost_ret (results_can2 (p := 2) (u := 3) (by kernel_rfl) _ _ w.heap.size 43 (.int .i64 0) (.int .i64 0) (.slice none 0 0) rfl k1) rfl ?_
    have hB2 := Below.drew hB1
    refine ⟨?_, rfl⟩
    repeat (first | assumption | exact Below.refl _ _ | refine below_dN ?_ _ | refine Below.alloc ?_ (by first | exact Nat.le_refl _ | omega | (simp; done) | (simp; omega)) _ | refine Below.setCell ?_ (by first | exact Nat.le_refl _ | omega | (simp; done) | (simp; omega)) _ | refine Below.drew ?_ | refine Below.trans ?_ (Below.mono (by assumption) (by first | exact Nat.le_refl _ | omega | (simp; done) | (simp; omega))))
  | x :: y :: rest, hb, hl, hcb, hb1 =>
    obtain ⟨bb, oo, rfl, c0⟩ := hb1.get 0 (by simp)
    obtain ⟨_, _, e1, c1⟩ := hb1.get 1 (by simp)
    cases e1
    simp only [List.getElem_cons_zero, List.getElem_cons_succ, Nat.add_zero] at c0 c1
    have hbb : bb < w.heap.size := by
      obtain ⟨_, _, e2, cw⟩ := hb.get 0 (by simp)
      cases e2
      exact World.block_lt_of_cell? w _ cw
    have hx256 : x.toNat < 256 := x.toNat_lt
    have hy256 : y.toNat < 256 := y.toNat_lt
    have hq2 : decide (((x :: y :: rest).length : Int) < 2) = false := by simp; omega
    have hl1 : (1 : Int) < ((x :: y :: rest).length : Int) := by simp; omega
    have hl0 : (0 : Int) < ((x :: y :: rest).length : Int) := by simp; omega
    obtain ⟨B, eB⟩ : ∃ B, x :: y :: rest = B := ⟨_, rfl⟩
    have HB := Lib.hid eB
    rw [eB] at hb hl hcb hb1 hq2 hl1 hl0 ⊢
    clear eB
    rw [hW1] at k0 hB1 hb1 c0 c1
    obtain ⟨q1, q2, q3⟩ := k0.all
    by_cases hok : 1 ≤ (x.toNat : Int) ∧ (x.toNat : Int) ≤ 4 ∧ 1 ≤ (y.toNat : Int) ∧ (y.toNat : Int) ≤ 4
    · have hsz : ∀ W, Calls Try.prog 49 #[.int .i64 x.toNat, .int .i64 y.toNat] W fun e w' => e = .returned (.bool true) ∧ W = w' := fun W => by
        have := sizes_any x.toNat y.toNat W
        rwa [show decide (1 ≤ (x.toNat : Int) ∧ (x.toNat : Int) ≤ 4 ∧ 1 ≤ (y.toNat : Int) ∧ (y.toNat : Int) ≤ 4) = true from by simpa using hok] at this
      have hrc : readCan B = (readTs aheadF (x.toNat * y.toNat) [] (B.drop 2)).map fun p => (x.toNat, y.toNat, p.1, p.2 + 2) := by
        rw [← HB.out, readCan_cons, if_pos (by omega)]; rfl
      have hxy := Nat.mul_le_mul (show x.toNat ≤ 4 by omega) (show y.toNat ≤ 4 by omega)
      obtain ⟨m, hm⟩ : ∃ m, x.toNat * y.toNat = m := ⟨_, rfl⟩
      have hmul : (x.toNat : Int) * (y.toNat : Int) = (m : Int) := by rw [← hm, Int.natCast_mul]
      rw [hm] at hrc hxy
      have hwm : IntKind.i64.wrap (m : Int) = (m : Int) := wr64 _ _ rfl (by omega)
      clear hm
      have hB2l : 2 ≤ B.length := by omega
      have HS := Lib.hid hsz
      have HRC := Lib.hid hrc
      clear hok hsz hrc
      go_enter Try.func26, Try.ntmps26
      go_wp2
      clear hW1
      refine wp_region_cuts [.q [_, _, _, _, _, _, _, _, _, _, _, _]] [_, _, _] rfl (fun w'' => Below W1.heap.size W1 w'') (by kernel_rfl) (by kernel_rfl) (fun _ _ d _ _ h => by cases d <;> exact h) ?_
      refine cut_q (Below.refl _ W1).drew ?_
      repeat (first | go_big_quiet_step ((intros; rfl)) | quiet_step ((intros; rfl)) | fail | (refine wq_loadB rfl rfl (by kernel_rfl) (by assumption) ?_; simp only [Act.put, List.setIfInBounds_toArray, List.set_cons_succ, List.set_cons_zero]))
      refine wpQuiet_nil ?_
      refine cut_end ?_
      go_wp2_with fail
      refine (HS.out _).mono ?_
      rintro e W2 ⟨rfl, rfl⟩
      go_upto_region 3 with fail
      clear q1 q2 q3
      refine gen_code (fun W => Below w.heap.size w W ∧ Blk W w.heap.size #[.int .i64 0, .int .i64 0, .slice none 0 0] 43 ∧ Bytes W (.slice (some ⟨bb, oo, none⟩) B.length cb) B ∧ W.cell? ⟨bb, oo, none⟩ = some (vb x) ∧ W.cell? ⟨bb, oo + 1, none⟩ = some (vb y)) ⟨Below.drew hB1, k0, hb1.below (Below.refl W1.heap.size W1).drew, c0, c1⟩ ?_
      clear hB1 k0 hb1 c0 c1
      rintro W3 ⟨hB3, k3, hb3, c0, c1⟩
      refine wp_region_cuts [.q [_, _, _, _, _, _, _, _, _, _], .e _, .q [_, _, _, _]] [_] rfl (fun w'' => Below W3.heap.size W3 w'') (by kernel_rfl) (by kernel_rfl) (fun _ _ d _ _ h => by cases d <;> exact h) ?_
      refine cut_q (Below.refl _ W3).drew ?_
      repeat (first | go_big_quiet_step ((intros; rfl)) | quiet_step ((intros; rfl)) | fail | (refine wq_loadB rfl rfl (by kernel_rfl) (by assumption) ?_; simp only [Act.put, List.setIfInBounds_toArray, List.set_cons_succ, List.set_cons_zero]))
      refine wpQuiet_nil ?_
      refine cut_e ?_
      go_wp2_with fail
      have hB3d : Below W3.heap.size W3 W3.drew := (Below.refl _ W3).drew
      refine (reftiles_any m _ _ B [] _ (hb3.below hB3d) (Tiles.nil _) hl hB2l (by omega) (by simp)).mono ?_
      rintro e W4 ⟨hB4, he⟩
      rw [zeroOf_nil] at he
      have hB34 := Below.up hB3d hB4
      have k4 := Blk.up k3 hB34
      have hB4w := Below.up hB3 hB34
      have k3s : w.heap.size + 1 ≤ W3.drew.heap.size := k3.lt
      have c0' := below_cell hB34 c0
      have c1' := below_cell hB34 c1
      clear hB3d hB3 k3 hb3 c0 c1 hB4
      cases hr : readTs aheadF m [] (B.drop 2) with
      | none =>
        rw [hr] at he
        change e = .returned (.tuple #[.slice none 0 0, .int .i64 0]) at he
        subst he
        have HRN : Hid (readCan B = none) := by refine Lib.hid ?_; rw [HRC.out, hr]; rfl
        clear hr
        go_wp2
        refine ⟨hB34, ?_⟩
        refine cut_q hB34 ?_
        repeat (first | go_big_quiet_step ((intros; rfl)) | quiet_step ((intros; rfl)) | fail | (refine wq_loadB rfl rfl (by kernel_rfl) (by assumption) ?_; simp only [Act.put, List.setIfInBounds_toArray, List.set_cons_succ, List.set_cons_zero]))
        refine wpQuiet_nil ?_
        refine cut_end ?_
        obtain ⟨q1, q2, q3⟩ := k4.all
        go_wp2
        have k5 := ((k4.set 0 (.int .i64 0)).set 1 (.int .i64 0)).set 2 (.slice none 0 0)
        refine bodyPost_ret (results_can2 (p := 2) (u := 3) (by kernel_rfl) _ _ w.heap.size 43 (.int .i64 0) (.int .i64 0) (.slice none 0 0) rfl k5) rfl ?_
        rw [HRN.out]
        refine ⟨?_, rfl⟩
        repeat (first | assumption | exact Below.refl _ _ | refine below_dN ?_ _ | refine Below.alloc ?_ (by first | exact Nat.le_refl _ | omega | (simp; done) | (simp; omega)) _ | refine Below.setCell ?_ (by first | exact Nat.le_refl _ | omega | (simp; done) | (simp; omega)) _ | refine Below.drew ?_ | refine Below.trans ?_ (Below.mono (by assumption) (by first | exact Nat.le_refl _ | omega | (simp; done) | (simp; omega))))
      | some q =>
        obtain ⟨A, k⟩ := q
        rw [hr] at he
        obtain ⟨a4, c4, rfl, ho4⟩ := he
        have HRN : Hid (readCan B = some (x.toNat, y.toNat, A, 2 + k)) := by refine Lib.hid ?_; rw [HRC.out, hr]; simp; omega
        clear hr
        have hk0 : (((2 + k : Nat) : Int) == 0) = false := by rw [beq_eq_false_iff_ne]; omega
        obtain ⟨n, hn⟩ : ∃ n, 2 + k = n := ⟨_, rfl⟩
        rw [hn] at HRN hk0 ⊢
        clear hn
        go_wp2
        refine ⟨hB34, ?_⟩
        refine cut_q hB34 ?_
        repeat (first | go_big_quiet_step ((intros; rfl)) | quiet_step ((intros; rfl)) | fail | (refine wq_loadB rfl rfl (by kernel_rfl) (by assumption) ?_; simp only [Act.put, List.setIfInBounds_toArray, List.set_cons_succ, List.set_cons_zero]))
        refine wpQuiet_nil ?_
        refine cut_end ?_
        go_upto_region 6 with fail
        refine wp_region_cuts [.q [_, _, _, _, _, _, _, _, _, _, _], .e _] [_] rfl (fun w'' => w''.cell? ⟨bb, oo, none⟩ = some (vb x) ∧ w''.cell? ⟨bb, oo + 1, none⟩ = some (vb y)) (by kernel_rfl) (by kernel_rfl) (fun _ _ d _ _ h => by cases d <;> exact h) ?_
        refine cut_q ⟨c0', c1'⟩ ?_
        repeat (first | go_big_quiet_step ((intros; rfl)) | quiet_step ((intros; rfl)) | (refine wq_load1 (v := vb x) rfl rfl (by kernel_rfl) (fun w'' hC => hC.1) ?_; simp only [Act.put, List.setIfInBounds_toArray, List.set_cons_succ, List.set_cons_zero]) | (refine wq_load1 (v := vb y) rfl rfl (by kernel_rfl) (fun w'' hC => hC.2) ?_; simp only [Act.put, List.setIfInBounds_toArray, List.set_cons_succ, List.set_cons_zero]) | (refine wq_loadB rfl rfl (by kernel_rfl) (by assumption) ?_; simp only [Act.put, List.setIfInBounds_toArray, List.set_cons_succ, List.set_cons_zero]))
        refine wpQuiet_nil ?_
        obtain ⟨q1, q2, q3⟩ := k4.all
        refine cut_e ?_
        go_wp2
        have hne : ∀ j : Nat, (⟨bb, oo, none⟩ : Addr) ≠ ⟨w.heap.size, j, none⟩ := fun j h => by injection h with h1; omega
        have hne2 : ∀ j : Nat, (⟨bb, oo + 1, none⟩ : Addr) ≠ ⟨w.heap.size, j, none⟩ := fun j h => by injection h with h1; omega
        refine ⟨⟨?_, ?_⟩, ?_⟩
        · exact (World.cell?_setCell_other _ _ _ _ (hne 2).symm).trans ((World.cell?_setCell_other _ _ _ _ (hne 1).symm).trans ((World.cell?_setCell_other _ _ _ _ (hne 0).symm).trans c0'))
        · exact (World.cell?_setCell_other _ _ _ _ (hne2 2).symm).trans ((World.cell?_setCell_other _ _ _ _ (hne2 1).symm).trans ((World.cell?_setCell_other _ _ _ _ (hne2 0).symm).trans c1'))
        refine cut_end ?_
        go_wp2
        have k5 := ((k4.set 0 (.int .i64 x.toNat)).set 1 (.int .i64 y.toNat)).set 2 (.slice a4 A.length c4)
        refine bodyPost_ret (results_can2 (p := 2) (u := 3) (by kernel_rfl) _ _ w.heap.size 43 (.int .i64 x.toNat) (.int .i64 y.toNat) (.slice a4 A.length c4) rfl k5) rfl ?_
        rw [HRN.out]
        refine ⟨by repeat (first | assumption | exact Below.refl _ _ | refine below_dN ?_ _ | refine Below.alloc ?_ (by first | exact Nat.le_refl _ | omega | (simp; done) | (simp; omega)) _ | refine Below.setCell ?_ (by first | exact Nat.le_refl _ | omega | (simp; done) | (simp; omega)) _ | refine Below.drew ?_ | refine Below.trans ?_ (Below.mono (by assumption) (by first | exact Nat.le_refl _ | omega | (simp; done) | (simp; omega)))), a4, c4, rfl, ho4.1, ?_⟩
        have hs3 : w.heap.size + 1 ≤ W3.drew.heap.size := k3s
        have hg := gb_set (gb_set (gb_set (gb_refl W4 (some w.heap.size)) 0 (.int .i64 x.toNat)) 1 (.int .i64 y.toNat)) 2 (.slice a4 A.length c4)
        exact ownsRow_base (ownsRow_below (ho4.2.kept hg (.inr (fun e => own_ne ho4.2 (b := w.heap.size) (by omega) e.symm))) (Below.refl _ _).drew (Nat.le_refl _)) (by omega)
    · have hsz : ∀ W, Calls Try.prog 49 #[.int .i64 x.toNat, .int .i64 y.toNat] W fun e w' => e = .returned (.bool false) ∧ W = w' := fun W => by
        have := sizes_any x.toNat y.toNat W
        rwa [show decide (1 ≤ (x.toNat : Int) ∧ (x.toNat : Int) ≤ 4 ∧ 1 ≤ (y.toNat : Int) ∧ (y.toNat : Int) ≤ 4) = false from by simpa using hok] at this
      have hrc : readCan B = none := by rw [← HB.out, readCan_cons, if_neg (by omega)]
      have HS := Lib.hid hsz
      have HRC := Lib.hid hrc
      clear hok hsz hrc
      go_enter Try.func26, Try.ntmps26
      go_wp2
      clear hW1
      refine wp_region_cuts [.q [_, _, _, _, _, _, _, _, _, _, _, _]] [_, _, _] rfl (fun w'' => Below W1.heap.size W1 w'') (by kernel_rfl) (by kernel_rfl) (fun _ _ d _ _ h => by cases d <;> exact h) ?_
      refine cut_q (Below.refl _ W1).drew ?_
      repeat (first | go_big_quiet_step ((intros; rfl)) | quiet_step ((intros; rfl)) | fail | (refine wq_loadB rfl rfl (by kernel_rfl) (by assumption) ?_; simp only [Act.put, List.setIfInBounds_toArray, List.set_cons_succ, List.set_cons_zero]))
      refine wpQuiet_nil ?_
      refine cut_end ?_
      go_wp2_with fail
      refine (HS.out _).mono ?_
      rintro e W2 ⟨rfl, rfl⟩
      go_wp2
      have k1 := (((Blk.drew k0).set 0 (.int .i64 0)).set 1 (.int .i64 0)).set 2 (.slice none 0 0)
      refine bodyPost_ret (results_can2 (p := 2) (u := 3) (by kernel_rfl) _ _ w.heap.size 43 (.int .i64 0) (.int .i64 0) (.slice none 0 0) rfl k1) rfl ?_
      rw [HRC.out]
      have hB2 := Below.drew hB1
      refine ⟨?_, rfl⟩
      repeat (first | assumption | exact Below.refl _ _ | refine below_dN ?_ _ | refine Below.alloc ?_ (by first | exact Nat.le_refl _ | omega | (simp; done) | (simp; omega)) _ | refine Below.setCell ?_ (by first | exact Nat.le_refl _ | omega | (simp; done) | (simp; omega)) _ | refine Below.drew ?_ | refine Below.trans ?_ (Below.mono (by assumption) (by first | exact Nat.le_refl _ | omega | (simp; done) | (simp; omega))))

end Go.Proofs.Ytneajhldmecllaa
