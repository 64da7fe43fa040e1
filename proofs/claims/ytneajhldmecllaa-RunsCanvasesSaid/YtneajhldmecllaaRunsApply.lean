/- runs.Apply. -/
import Derived.Test.YtneajhldmecllaaRunsReadCan
namespace Go.Proofs.Ytneajhldmecllaa
open Go.RowKit

theorem tlc_vb (L : List (List Col)) (u : Value) (h : u ∈ tlc L) : ∃ x : UInt8, u = vb x := by
  unfold tlc tcells at h
  obtain ⟨T, _, h⟩ := List.mem_flatMap.1 h
  simp only [] at h
  obtain ⟨c, _, h⟩ := List.mem_flatMap.1 h
  simp at h
  rcases h with rfl | rfl | rfl | rfl <;> exact ⟨_, rfl⟩

theorem Tiles.kept {w w' : World} {v : Value} {L : List (List Col)} {br : Nat} {cs : Array Value} {t : TypeId} (h : Tiles w v L) (hb : Blk w br cs t) (hn : noB cs) (hg : Kept (· = br) w w') : Tiles w' v L := by
  obtain ⟨h64, a, c, e, h1, h2, h3, r⟩ := h
  refine ⟨h64, a, c, e, h1, h2, h3, fun j u hu => ?_⟩
  obtain ⟨b, o, ea, hc⟩ := r j u hu
  refine ⟨b, o, ea, ?_⟩
  have hlt := World.block_lt_of_cell? w _ hc
  have hne : b ≠ br := by
    rintro rfl
    obtain ⟨x, rfl⟩ := tlc_vb L u (List.mem_of_getElem? hu)
    exact hn _ x ((hb.cell _).symm.trans hc)
  rw [← hc]
  unfold World.cell?
  rw [hg.block b hlt hne]

set_option maxRecDepth 100000 in
set_option maxHeartbeats 1000000 in
theorem apply1_any (x y : Int) (v : Value) (A : List (List Col)) (pc i : Nat) (w : World) (hL : Tiles w v A) (hpc : Blk w pc #[.int .i64 x, .int .i64 y, v] 43) (hi : i < A.length) :
    Calls Try.prog 54 #[.int .i64 i, .pointer (some ⟨pc, 0, none⟩)] w fun e w' => e = .returned (tileV (oldZ A i)) ∧ Below w.heap.size w w' := by
  obtain ⟨a1, c1, rfl, hc1, hm1⟩ := hL.slice
  have n0 := Blk.new w (tcells noTile) 29
  obtain ⟨b1, o1, rfl, e1, x1⟩ := hL.get i hi
  have hcc := (hpc.alloc (.cells (tcells noTile) 29)).cell 2
  simp only [List.getElem?_toArray, List.getElem?_cons_zero, List.getElem?_cons_succ] at hcc
  have t1 : A[i].length = 64 := hL.1 _ (by simp)
  have e : oldZ A i = A[i] := by unfold oldZ; rw [List.getD_eq_getElem?_getD, List.getElem?_eq_getElem hi]; rfl
  have e1' := e1.below ((Below.refl _ w).alloc (Nat.le_refl _) (.cells (tcells noTile) 29)) x1
  rw [e]
  clear e e1
  go_enter Try.func54, Try.ntmps54
  go_wp2_with (first | refine wl_alloc_tile rfl ?_ | refine wl_load_tile rfl rfl t1 e1' ?_ | refine wl_store_tile rfl rfl rfl n0 (by rfl) t1 ?_)
  refine bodyPost_ret (results_tile1 (p := 3) (by kernel_rfl) _ _ w.heap.size A[i] t1 rfl (Blk.tileAt (b := w.heap.size) (t := 29) (n0.setRow))) rfl ?_
  exact ⟨rfl, below_row (by (repeat (first | assumption | exact Below.refl _ _ | refine below_dN ?_ _ | refine Below.alloc ?_ (by first | exact Nat.le_refl _ | omega | (simp; done) | (simp; omega)) _ | refine Below.setCell ?_ (by first | exact Nat.le_refl _ | omega | (simp; done) | (simp; omega)) _ | refine Below.drew ?_ | refine Below.trans ?_ (Below.mono (by assumption) (by first | exact Nat.le_refl _ | omega | (simp; done) | (simp; omega)))))) _ (Nat.le_refl _) _⟩

/-- the zeros of a patch's places -/
def oldF (O : List (List Col)) (A : List (List Col)) : List Col := oldZ O A.length

theorem zero_apply (w0 : World) (br pc : Nat) (x y : Int) (v wd hg bs : Value) (O : List (List Col)) (n : Nat) (cs : Array Value) (t : TypeId) (hO : Tiles w0 v O) (hbr : Blk w0 br cs t) (hnb : noB cs) (hpc : Blk w0 pc #[.int .i64 x, .int .i64 y, v] 43) (hne : pc ≠ br) (hn : n ≤ O.length) :
    ZeroDyn br w0 wd hg bs (.func (.func 54) #[] #[.pointer (some ⟨pc, 0, none⟩)]) (oldF O) n 54 (.pointer (some ⟨pc, 0, none⟩)) where
  val := rfl
  enters := fun i w => by kernel_rfl
  len := fun A _ hA => by
    unfold oldF oldZ
    rw [List.getD_eq_getElem?_getD, List.getElem?_eq_getElem (by omega)]; exact hO.1 _ (by simp)
  tells := fun w tl at_ A hI hA => apply1_any x y v O pc A.length w (hO.kept hbr hnb hI.kept) (hpc.kept hI.kept hne) (by omega)

/-- the canvas that a patch brings one to -/
def readApp (X Y : Nat) (O : List (List Col)) : List UInt8 → Option (Nat × Nat × List (List Col) × Nat)
  | a :: b :: rest => if a.toNat = X ∧ b.toNat = Y then (readTs (oldF O) (X * Y) [] rest).map fun p => (X, Y, p.1, p.2 + 2) else none
  | _ => none
theorem readApp_cons (X Y : Nat) (O : List (List Col)) (a b : UInt8) (rest : List UInt8) : readApp X Y O (a :: b :: rest) = if a.toNat = X ∧ b.toNat = Y then (readTs (oldF O) (X * Y) [] rest).map (fun p => (X, Y, p.1, p.2 + 2)) else none := rfl

set_option maxRecDepth 100000 in
set_option maxHeartbeats 1500000 in
theorem applyin_any (X Y : Nat) (O : List (List Col)) (ov : Value) (br pr pa : Nat) (bs : Value) (l : List UInt8) (w : World) (hX : X ≤ 4) (hY : Y ≤ 4) (hO : Tiles w ov O) (hOl : X * Y ≤ O.length) (h : Blk w br (rdC (.int .i64 0) (.int .i64 0) (.slice none 0 0) bs 0) 68) (hpr : Blk w pr #[rd br] 66) (hne : pr ≠ br)
    (hpa : Blk w pa #[.int .i64 X, .int .i64 Y, ov] 43) (hna : pa ≠ br) (hb : Bytes w bs l) :
    Calls Try.prog 53 #[.pointer (some ⟨pr, 0, none⟩), .pointer (some ⟨pa, 0, none⟩)] w fun e w' => CanPost br w w' bs e (readApp X Y O l) := by
  obtain ⟨p1, p2, p3⟩ := hpr.all
  have hbs := hb
  obtain ⟨ab, cb, rfl, hcb1, hcb2, _, _⟩ := hbs
  match l, hb with
  | [], hb =>
    go_enter Try.func53, Try.ntmps53
    go_wp2_with (go_at_call 44; refine (next_no _ _ _ _ 0 br 2 _ _ h hb (by simp) (by omega) (by simp)).mono ?_; rintro e w' ⟨rfl, hb2⟩)
    exact ⟨rfl, rfl, .of_below hb2⟩
  | [_], hb =>
    go_enter Try.func53, Try.ntmps53
    go_wp2_with (go_at_call 44; refine (next_no _ _ _ _ 0 br 2 _ _ h hb (by simp) (by omega) (by simp)).mono ?_; rintro e w' ⟨rfl, hb2⟩)
    exact ⟨rfl, rfl, .of_below hb2⟩
  | a :: b :: rest, hb =>
    go_enter Try.func53, Try.ntmps53
    go_wp2_with (go_at_call 44; refine (next_yes _ _ _ _ 0 br 2 _ _ h hb (by simp) (by omega) (by omega) (by simp)).mono ?_; rintro e w1 ⟨v, rfl, hv, hB1, hg1⟩; obtain ⟨av, cv1, rfl, hcv1, hcv2, _, rv⟩ := (show IsSl w1 v 2 [vb a, vb b] from hv))
    obtain ⟨bb, oo, rfl, cb1⟩ := rv 0 (vb a) rfl
    obtain ⟨_, _, e1, cb2⟩ := rv 1 (vb b) rfl
    cases e1
    rw [Nat.add_zero] at cb1
    have hbb : bb ≠ br := by
      rintro rfl
      exact noB_rd 0 0 none ab 0 0 _ cb _ oo a ((hB1.cell oo).symm.trans cb1)
    have hp1 := hpr.grown hg1 (by simpa using hne)
    have ha256 : a.toNat < 256 := a.toNat_lt
    have hb256 : b.toNat < 256 := b.toNat_lt
    refine wp_region_cuts [.q [_, _, _, _, _, _, _, _, _, _, _, _, _], .e _] [_, _, _, _] rfl (fun w'' => Blk w'' pr #[rd br] 66 ∧ w''.cell? ⟨bb, oo, none⟩ = some (vb a) ∧ w''.cell? ⟨bb, oo + 1, none⟩ = some (vb b)) (by kernel_rfl) (by kernel_rfl) (fun _ _ d _ _ h => by cases d <;> exact h) ?_
    refine cut_q ⟨hp1, cb1, cb2⟩ ?_
    repeat (first | go_big_quiet_step ((intros; rfl)) | quiet_step ((intros; rfl)) | (refine wq_load1 (v := rd br) rfl rfl (by kernel_rfl) (fun w'' hC => hC.1.cell 0) ?_; simp only [Act.put, List.setIfInBounds_toArray, List.set_cons_succ, List.set_cons_zero]) | (refine wq_load1 (v := vb a) rfl rfl (by kernel_rfl) (fun w'' hC => hC.2.1) ?_; simp only [Act.put, List.setIfInBounds_toArray, List.set_cons_succ, List.set_cons_zero]) | (refine wq_load1 (v := vb b) rfl rfl (by kernel_rfl) (fun w'' hC => hC.2.2) ?_; simp only [Act.put, List.setIfInBounds_toArray, List.set_cons_succ, List.set_cons_zero]) | (refine wq_loadB rfl rfl (by kernel_rfl) (by assumption) ?_; simp only [Act.put, List.setIfInBounds_toArray, List.set_cons_succ, List.set_cons_zero]))
    refine wpQuiet_nil ?_
    obtain ⟨x1, x2, x3⟩ := hB1.all
    refine cut_e ?_
    go_wp2
    refine ⟨⟨hp1.other ⟨br, 0, none⟩ _ hne, (World.cell?_setCell_other _ _ _ _ (by intro e; injection e with e1; exact hbb e1.symm)).trans cb1, (World.cell?_setCell_other _ _ _ _ (by intro e; injection e with e1; exact hbb e1.symm)).trans cb2⟩, ?_⟩
    refine cut_end ?_
    have hp2 : Blk (w1.setCell ⟨br, 0, none⟩ (.int .i64 a.toNat)).drew pr #[rd br] 66 := hp1.other ⟨br, 0, none⟩ _ hne
    have hB2 : Blk (w1.setCell ⟨br, 0, none⟩ (.int .i64 a.toNat)).drew br (rdC (.int .i64 a.toNat) (.int .i64 0) (.slice none 0 0) (.slice ab (a :: b :: rest).length cb) 2) 68 := hB1.set 0 _
    have hg2 : w.grownBy (w1.setCell ⟨br, 0, none⟩ (.int .i64 a.toNat)).drew (some br) := gb_below (gb_set hg1 0 _) ((Below.refl _ _).drew) (Nat.le_refl _)
    obtain ⟨W2, hW2⟩ : ∃ W2, (w1.setCell ⟨br, 0, none⟩ (.int .i64 a.toNat)).drew = W2 := ⟨_, rfl⟩
    rw [hW2] at hp2 hB2 hg2 ⊢
    clear hW2 hp1 hB1 hg1 cb1 cb2 x1 x2 x3
    obtain ⟨x1, x2, x3⟩ := hB2.all
    have hp3 : Blk (W2.setCell ⟨br, 1, none⟩ (.int .i64 b.toNat)) pr #[rd br] 66 := hp2.other ⟨br, 1, none⟩ _ hne
    have hB3 : Blk (W2.setCell ⟨br, 1, none⟩ (.int .i64 b.toNat)) br (rdC (.int .i64 a.toNat) (.int .i64 b.toNat) (.slice none 0 0) (.slice ab (a :: b :: rest).length cb) 2) 68 := hB2.set 1 _
    have hg3 : w.grownBy (W2.setCell ⟨br, 1, none⟩ (.int .i64 b.toNat)) (some br) := gb_set hg2 1 _
    obtain ⟨W3, hW3⟩ : ∃ W3, W2.setCell ⟨br, 1, none⟩ (.int .i64 b.toNat) = W3 := ⟨_, rfl⟩
    rw [hW3] at hp3 hB3 hg3
    have hK3 : Kept (· = br) w W3 := .of_grown hg3 (by rintro k ⟨⟩; rfl)
    have hpa3 := hpa.kept hK3 hna
    have y0 : W3.cell? ⟨br, 0, none⟩ = some (.int .i64 a.toNat) := hB3.cell 0
    have y1 : W3.cell? ⟨br, 1, none⟩ = some (.int .i64 b.toNat) := hB3.cell 1
    have y2 : W3.cell? ⟨pr, 0, none⟩ = some (rd br) := hp3.cell 0
    have y3 : W3.cell? ⟨pa, 0, none⟩ = some (.int .i64 X) := hpa3.cell 0
    have y4 : W3.cell? ⟨pa, 1, none⟩ = some (.int .i64 Y) := hpa3.cell 1
    have hKd : Kept (· = br) w W3.drew := hK3.trans (.of_below (Below.refl _ W3).drew)
    go_wp2
    by_cases hax : a.toNat = X
    · have qx : ((a.toNat : Int) == (X : Int)) = true := by simp [hax]
      by_cases hby : b.toNat = Y
      · have qy : ((b.toNat : Int) == (Y : Int)) = true := by simp [hby]
        have HA := Lib.hid hax
        have HB := Lib.hid hby
        clear hax hby
        have hbW : Bytes W3 (.slice ab (a :: b :: rest).length cb) (a :: b :: rest) := hb.keep h (noB_rd _ _ _ _ _ _ _ _ _) hg3
        have hOW : Tiles W3 ov O := hO.kept h (noB_rd _ _ _ _ _ _ _ _ _) hK3
        have hmul := Nat.mul_le_mul hX hY
        have hB3d : Blk W3.drew br (rdC (.int .i64 X) (.int .i64 Y) (.slice none 0 0) (.slice ab (a :: b :: rest).length cb) 2) 68 := by
          have := hB3.drew
          rwa [HA.out, HB.out] at this
        have H := rdtiles_any X Y 2 br _ _ _ W3.drew hX hY hB3d (hbW.below (Below.refl _ W3).drew) (by simp) (oldF O) _ _ (zero_apply W3.drew br pa X Y ov _ _ _ O (X * Y) _ _ (hOW.below (Below.refl _ W3).drew) hB3d (noB_rd _ _ _ _ _ _ _ _ _) hpa3.drew hna hOl)
        rw [show (a :: b :: rest).drop 2 = rest from rfl] at H
        have hsz := hg3.size
        refine wp_region_cuts [.q [_, _, _, _, _, _, _, _, _, _, _, _, _, _, _, _]] [_, _, _] rfl (fun w'' => Below W3.heap.size W3 w'') (by kernel_rfl) (by kernel_rfl) (fun _ _ d _ _ h => by cases d <;> exact h) ?_
        refine cut_q (by (repeat (first | assumption | exact Below.refl _ _ | refine below_dN ?_ _ | refine Below.alloc ?_ (by first | exact Nat.le_refl _ | omega | (simp; done) | (simp; omega)) _ | refine Below.setCell ?_ (by first | exact Nat.le_refl _ | omega | (simp; done) | (simp; omega)) _ | refine Below.drew ?_ | refine Below.trans ?_ (Below.mono (by assumption) (by first | exact Nat.le_refl _ | omega | (simp; done) | (simp; omega)))))) ?_
        repeat (first | go_big_quiet_step ((intros; rfl)) | quiet_step ((intros; rfl)) | fail | (refine wq_loadB rfl rfl (by kernel_rfl) (by assumption) ?_; simp only [Act.put, List.setIfInBounds_toArray, List.set_cons_succ, List.set_cons_zero]))
        refine wpQuiet_nil ?_
        refine cut_end ?_
        cases hr : readTs (oldF O) (X * Y) [] rest with
        | none =>
          rw [hr] at H
          have hno : readApp X Y O (a :: b :: rest) = none := by rw [readApp_cons, if_pos ⟨HA.out, HB.out⟩, hr]; rfl
          go_wp2_with (first | (go_at_call 45; refine (need_true _).mono ?_; rintro e w' ⟨rfl, rfl⟩) | (go_at_call 46; refine H.mono ?_; rintro e w' ⟨rfl, hk⟩))
          rw [hno]; exact ⟨rfl, rfl, hKd.trans hk⟩
        | some p =>
          obtain ⟨A, k⟩ := p
          rw [hr] at H
          have hyes : readApp X Y O (a :: b :: rest) = some (X, Y, A, k + 2) := by rw [readApp_cons, if_pos ⟨HA.out, HB.out⟩, hr]; rfl
          go_wp2_with (first | (go_at_call 45; refine (need_true _).mono ?_; rintro e w' ⟨rfl, rfl⟩) | (go_at_call 46; refine H.mono ?_; rintro e w' ⟨rfl, tl, hI⟩))
          go_end0
          rw [hyes]
          exact ⟨rfl, hKd.trans hI.kept, tl, by have := hI.blk; rwa [Nat.add_comm 2 k] at this, hI.own.1, ownsRow_base hI.own.2 hsz⟩
      · have qy : ((b.toNat : Int) == (Y : Int)) = false := by simp; omega
        have hno : readApp X Y O (a :: b :: rest) = none := by rw [readApp_cons, if_neg (fun h => hby h.2)]
        clear hax hby
        refine wp_region_cuts [.q [_, _, _, _, _, _, _, _, _, _, _, _, _, _, _, _]] [_, _, _] rfl (fun w'' => Below W3.heap.size W3 w'') (by kernel_rfl) (by kernel_rfl) (fun _ _ d _ _ h => by cases d <;> exact h) ?_
        refine cut_q (by (repeat (first | assumption | exact Below.refl _ _ | refine below_dN ?_ _ | refine Below.alloc ?_ (by first | exact Nat.le_refl _ | omega | (simp; done) | (simp; omega)) _ | refine Below.setCell ?_ (by first | exact Nat.le_refl _ | omega | (simp; done) | (simp; omega)) _ | refine Below.drew ?_ | refine Below.trans ?_ (Below.mono (by assumption) (by first | exact Nat.le_refl _ | omega | (simp; done) | (simp; omega)))))) ?_
        repeat (first | go_big_quiet_step ((intros; rfl)) | quiet_step ((intros; rfl)) | fail | (refine wq_loadB rfl rfl (by kernel_rfl) (by assumption) ?_; simp only [Act.put, List.setIfInBounds_toArray, List.set_cons_succ, List.set_cons_zero]))
        refine wpQuiet_nil ?_
        refine cut_end ?_
        go_wp2_with (go_at_call 45; refine (need_false _).mono ?_; rintro e w' ⟨rfl, rfl⟩)
        rw [hno]; exact ⟨rfl, rfl, hKd⟩
    · have qx : ((a.toNat : Int) == (X : Int)) = false := by simp; omega
      have hno : readApp X Y O (a :: b :: rest) = none := by rw [readApp_cons, if_neg (fun h => hax h.1)]
      clear hax
      refine wp_region_cuts [.q [_, _, _, _, _, _, _, _, _, _, _, _, _, _, _, _]] [_, _, _] rfl (fun w'' => Below W3.heap.size W3 w'') (by kernel_rfl) (by kernel_rfl) (fun _ _ d _ _ h => by cases d <;> exact h) ?_
      refine cut_q (by (repeat (first | assumption | exact Below.refl _ _ | refine below_dN ?_ _ | refine Below.alloc ?_ (by first | exact Nat.le_refl _ | omega | (simp; done) | (simp; omega)) _ | refine Below.setCell ?_ (by first | exact Nat.le_refl _ | omega | (simp; done) | (simp; omega)) _ | refine Below.drew ?_ | refine Below.trans ?_ (Below.mono (by assumption) (by first | exact Nat.le_refl _ | omega | (simp; done) | (simp; omega)))))) ?_
      repeat (first | go_big_quiet_step ((intros; rfl)) | quiet_step ((intros; rfl)) | fail | (refine wq_loadB rfl rfl (by kernel_rfl) (by assumption) ?_; simp only [Act.put, List.setIfInBounds_toArray, List.set_cons_succ, List.set_cons_zero]))
      refine wpQuiet_nil ?_
      refine cut_end ?_
      go_wp2_with (go_at_call 45; refine (need_false _).mono ?_; rintro e w' ⟨rfl, rfl⟩)
      rw [hno]; exact ⟨rfl, rfl, hKd⟩

end Go.Proofs.Ytneajhldmecllaa
