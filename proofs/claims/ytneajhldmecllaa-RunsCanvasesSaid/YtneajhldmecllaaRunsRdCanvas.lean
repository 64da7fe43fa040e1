/- runs.ReadCanvas. -/
import Derived.Test.YtneajhldmecllaaRunsRdTiles
namespace Go.Proofs.Ytneajhldmecllaa
open Go.RowKit

def aheadF (A : List (List Col)) : List Col := aheadZ A A.length

theorem aheadF_len (A : List (List Col)) (h : All64 A) : (aheadF A).length = 64 := by
  unfold aheadF aheadZ
  split
  · exact noTile_len
  · rw [List.getD_eq_getElem?_getD, List.getElem?_eq_getElem (by omega)]; exact h _ (by simp)

set_option maxRecDepth 100000 in
set_option maxHeartbeats 600000 in
theorem zeroread_any (w0 w : World) (br pr : Nat) (wd hg bs tl : Value) (at_ : Nat) (A : List (List Col)) (hI : RdInv br w0 w wd hg bs tl at_ A) (hpr : Blk w0 pr #[rd br] 66) (hne : pr ≠ br) (hl : A.length ≤ 1000) :
    Calls Try.prog 47 #[.int .i64 A.length, .pointer (some ⟨pr, 0, none⟩)] w fun e w' => e = .returned (tileV (aheadF A)) ∧ Below w.heap.size w w' := by
  have hp := hpr.kept hI.kept hne
  have hT := hI.own.tiles
  have hB1 : Below w.heap.size w (w.alloc (.cells (tcells noTile) 29)) := by repeat (first | assumption | exact Below.refl _ _ | refine below_dN ?_ _ | refine Below.alloc ?_ (by first | exact Nat.le_refl _ | omega | (simp; done) | (simp; omega)) _ | refine Below.setCell ?_ (by first | exact Nat.le_refl _ | omega | (simp; done) | (simp; omega)) _ | refine Below.drew ?_ | refine Below.trans ?_ (Below.mono (by assumption) (by first | exact Nat.le_refl _ | omega | (simp; done) | (simp; omega))))
  have n0 := Blk.new w (tcells noTile) 29
  have hp1 := (hp.alloc (.cells (tcells noTile) 29)).cell 0
  have hb1 := (hI.blk.alloc (.cells (tcells noTile) 29)).cell 2
  simp only [List.getElem?_toArray, List.getElem?_cons_zero, List.getElem?_cons_succ] at hp1 hb1
  have hT1 := hT.below hB1
  have h64 := aheadF_len A hI.own.1
  obtain ⟨a3, c3, rfl, hc3, hm3⟩ := hT.slice
  have hs1 : (w.alloc (.cells (tcells noTile) 29)).heap.size = w.heap.size + 1 := by simp
  obtain ⟨W1, hW1⟩ : ∃ W1, w.alloc (.cells (tcells noTile) 29) = W1 := ⟨_, rfl⟩
  rw [hW1] at hB1 n0 hp1 hb1 hT1 hs1
  have hT2 := hT1.below ((Below.refl _ W1).alloc (Nat.le_refl _) (.cells #[.slice a3 A.length c3] 22))
  have hk2 := Blk.new W1 #[.slice a3 A.length c3] 22
  have n2 := n0.alloc (.cells #[.slice a3 A.length c3] 22)
  have hc1 := ahead1_any _ A W1.heap.size A.length _ hT2 hk2 (Nat.le_refl _) hl
  have hB2 : Below w.heap.size w (W1.alloc (.cells #[.slice a3 A.length c3] 22)) := hB1.alloc (by omega) _
  have hs2 : (W1.alloc (.cells #[.slice a3 A.length c3] 22)).heap.size = w.heap.size + 2 := by simp [hs1]
  rw [hs1] at hc1
  go_enter Try.func47, Try.ntmps47
  go_wp2_with (first | refine wl_alloc_tile rfl ?_ | (go_at_call 42; refine (ahead_any _ _ a3 A.length c3 rfl).mono ?_; rintro e w2 ⟨rfl, rfl⟩) | (go_at_call 60; refine hc1.mono ?_; rintro e w3 ⟨rfl, hb3⟩; have n3 := n2.below hb3 n2.lt) | refine wl_store_tile rfl rfl rfl n3 (by rfl) h64 ?_)
  refine bodyPost_ret (results_tile1 (p := 3) (by kernel_rfl) _ _ w.heap.size (aheadF A) h64 rfl (Blk.tileAt (b := w.heap.size) (t := 29) (n3.setRow))) rfl ?_
  exact ⟨rfl, below_row (hB2.trans (hb3.mono (by omega))) _ (Nat.le_refl _) _⟩

theorem zero_read (w0 : World) (br pr : Nat) (wd hg bs : Value) (n : Nat) (hpr : Blk w0 pr #[rd br] 66) (hne : pr ≠ br) (hn : n ≤ 1000) :
    ZeroDyn br w0 wd hg bs (.func (.func 47) #[] #[.pointer (some ⟨pr, 0, none⟩)]) aheadF n 47 (.pointer (some ⟨pr, 0, none⟩)) where
  val := rfl
  enters := fun i w => by kernel_rfl
  len := fun A h _ => aheadF_len A h
  tells := fun w tl at_ A hI hA => zeroread_any w0 w br pr wd hg bs tl at_ A hI hpr hne (by omega)

/-- the canvas that bytes begin with: its sizes, its tiles, and how many bytes -/
def readCan : List UInt8 → Option (Nat × Nat × List (List Col) × Nat)
  | a :: b :: rest =>
    if 1 ≤ a.toNat ∧ a.toNat ≤ 4 ∧ 1 ≤ b.toNat ∧ b.toNat ≤ 4 then (readTs aheadF (a.toNat * b.toNat) [] rest).map fun p => (a.toNat, b.toNat, p.1, p.2 + 2)
    else none
  | _ => none

theorem readCan_cons (a b : UInt8) (rest : List UInt8) : readCan (a :: b :: rest) = if 1 ≤ a.toNat ∧ a.toNat ≤ 4 ∧ 1 ≤ b.toNat ∧ b.toNat ≤ 4 then (readTs aheadF (a.toNat * b.toNat) [] rest).map (fun p => (a.toNat, b.toNat, p.1, p.2 + 2)) else none := rfl

/-- what the inner closure leaves -/
structure CanGot (br : Nat) (w w' : World) (bs : Value) (e : Ending) (x y : Nat) (A : List (List Col)) (k : Nat) : Prop where
  ret : e = .returned (.tuple #[])
  kept : Kept (· = br) w w'
  inv : ∃ tl, Blk w' br (rdC (.int .i64 x) (.int .i64 y) tl bs k) 68 ∧ OwnT w.heap.size w' tl A
def CanPost (br : Nat) (w w' : World) (bs : Value) (e : Ending) : Option (Nat × Nat × List (List Col) × Nat) → Prop
  | some (x, y, A, k) => CanGot br w w' bs e x y A k
  | none => e = .panicked wrongP ∧ Kept (· = br) w w'

set_option maxRecDepth 100000 in
set_option maxHeartbeats 1500000 in
theorem readcan1_any (br pr : Nat) (bs : Value) (l : List UInt8) (w : World) (h : Blk w br (rdC (.int .i64 0) (.int .i64 0) (.slice none 0 0) bs 0) 68) (hpr : Blk w pr #[rd br] 66) (hne : pr ≠ br) (hb : Bytes w bs l) :
    Calls Try.prog 43 #[.pointer (some ⟨pr, 0, none⟩)] w fun e w' => CanPost br w w' bs e (readCan l) := by
  obtain ⟨p1, p2, p3⟩ := hpr.all
  have hbs := hb
  obtain ⟨ab, cb, rfl, hcb1, hcb2, _, _⟩ := hbs
  match l, hb with
  | [], hb =>
    go_enter Try.func43, Try.ntmps43
    go_wp2_with (go_at_call 44; refine (next_no _ _ _ _ 0 br 2 _ _ h hb (by simp) (by omega) (by simp)).mono ?_; rintro e w' ⟨rfl, hb2⟩)
    exact ⟨rfl, rfl, .of_below hb2⟩
  | [_], hb =>
    go_enter Try.func43, Try.ntmps43
    go_wp2_with (go_at_call 44; refine (next_no _ _ _ _ 0 br 2 _ _ h hb (by simp) (by omega) (by simp)).mono ?_; rintro e w' ⟨rfl, hb2⟩)
    exact ⟨rfl, rfl, .of_below hb2⟩
  | a :: b :: rest, hb =>
    go_enter Try.func43, Try.ntmps43
    go_wp2_with (go_at_call 44; refine (next_yes _ _ _ _ 0 br 2 _ _ h hb (by simp) (by omega) (by omega) (by simp)).mono ?_; rintro e w1 ⟨v, rfl, hv, hB1, hg1⟩; obtain ⟨av, cv1, rfl, hcv1, hcv2, _, rv⟩ := (show IsSl w1 v 2 [vb a, vb b] from hv))
    obtain ⟨bb, oo, rfl, cb1⟩ := rv 0 (vb a) rfl
    obtain ⟨_, _, e1, cb2⟩ := rv 1 (vb b) rfl
    cases e1
    rw [Nat.add_zero] at cb1
    have hbb : bb ≠ br := by
      rintro rfl
      exact noB_rd 0 0 none ab 0 0 _ cb _ oo a ((hB1.cell oo).symm.trans cb1)
    have hp1 := hpr.grown hg1 (by simpa using hne)
    have ha256 : a.toNat < 256 := a.toNat_lt
    have hb256 : b.toNat < 256 := b.toNat_lt
    refine wp_region_cuts [.q [_, _, _, _, _, _, _, _, _, _, _, _, _], .e _] [_, _, _, _] rfl (fun w'' => Blk w'' pr #[rd br] 66 ∧ w''.cell? ⟨bb, oo, none⟩ = some (vb a) ∧ w''.cell? ⟨bb, oo + 1, none⟩ = some (vb b)) (by kernel_rfl) (by kernel_rfl) (fun _ _ d _ _ h => by cases d <;> exact h) ?_
    refine cut_q ⟨hp1, cb1, cb2⟩ ?_
    repeat (first | go_big_quiet_step ((intros; rfl)) | quiet_step ((intros; rfl)) | (refine wq_load1 (v := rd br) rfl rfl (by kernel_rfl) (fun w'' hC => hC.1.cell 0) ?_; simp only [Act.put, List.setIfInBounds_toArray, List.set_cons_succ, List.set_cons_zero]) | (refine wq_load1 (v := vb a) rfl rfl (by kernel_rfl) (fun w'' hC => hC.2.1) ?_; simp only [Act.put, List.setIfInBounds_toArray, List.set_cons_succ, List.set_cons_zero]) | (refine wq_load1 (v := vb b) rfl rfl (by kernel_rfl) (fun w'' hC => hC.2.2) ?_; simp only [Act.put, List.setIfInBounds_toArray, List.set_cons_succ, List.set_cons_zero]) | (refine wq_loadB rfl rfl (by kernel_rfl) (by assumption) ?_; simp only [Act.put, List.setIfInBounds_toArray, List.set_cons_succ, List.set_cons_zero]))
    refine wpQuiet_nil ?_
    obtain ⟨x1, x2, x3⟩ := hB1.all
    refine cut_e ?_
    go_wp2
    refine ⟨⟨hp1.other ⟨br, 0, none⟩ _ hne, (World.cell?_setCell_other _ _ _ _ (by intro e; injection e with e1; exact hbb e1.symm)).trans cb1, (World.cell?_setCell_other _ _ _ _ (by intro e; injection e with e1; exact hbb e1.symm)).trans cb2⟩, ?_⟩
    refine cut_end ?_
    have hp2 : Blk (w1.setCell ⟨br, 0, none⟩ (.int .i64 a.toNat)).drew pr #[rd br] 66 := hp1.other ⟨br, 0, none⟩ _ hne
    have hB2 : Blk (w1.setCell ⟨br, 0, none⟩ (.int .i64 a.toNat)).drew br (rdC (.int .i64 a.toNat) (.int .i64 0) (.slice none 0 0) (.slice ab (a :: b :: rest).length cb) 2) 68 := hB1.set 0 _
    have hg2 : w.grownBy (w1.setCell ⟨br, 0, none⟩ (.int .i64 a.toNat)).drew (some br) := gb_below (gb_set hg1 0 _) ((Below.refl _ _).drew) (Nat.le_refl _)
    obtain ⟨W2, hW2⟩ : ∃ W2, (w1.setCell ⟨br, 0, none⟩ (.int .i64 a.toNat)).drew = W2 := ⟨_, rfl⟩
    rw [hW2] at hp2 hB2 hg2 ⊢
    clear hW2 hp1 hB1 hg1 cb1 cb2 x1 x2 x3
    obtain ⟨x1, x2, x3⟩ := hB2.all
    have hp3 : Blk (W2.setCell ⟨br, 1, none⟩ (.int .i64 b.toNat)) pr #[rd br] 66 := hp2.other ⟨br, 1, none⟩ _ hne
    have hB3 : Blk (W2.setCell ⟨br, 1, none⟩ (.int .i64 b.toNat)) br (rdC (.int .i64 a.toNat) (.int .i64 b.toNat) (.slice none 0 0) (.slice ab (a :: b :: rest).length cb) 2) 68 := hB2.set 1 _
    have hg3 : w.grownBy (W2.setCell ⟨br, 1, none⟩ (.int .i64 b.toNat)) (some br) := gb_set hg2 1 _
    obtain ⟨W3, hW3⟩ : ∃ W3, W2.setCell ⟨br, 1, none⟩ (.int .i64 b.toNat) = W3 := ⟨_, rfl⟩
    rw [hW3] at hp3 hB3 hg3
    obtain ⟨y1, y2, y3⟩ := hB3.all
    obtain ⟨z1, z2, z3⟩ := hp3.all
    by_cases ha1 : 1 ≤ a.toNat
    · by_cases ha4 : a.toNat ≤ 4
      · by_cases hb1 : 1 ≤ b.toNat
        · by_cases hb4 : b.toNat ≤ 4
          · have q4 : decide ((b.toNat : Int) ≤ 4) = true := by simp; omega
            have hbW : Bytes W3 (.slice ab (a :: b :: rest).length cb) (a :: b :: rest) := hb.keep h (noB_rd _ _ _ _ _ _ _ _ _) hg3
            have hmul := Nat.mul_le_mul ha4 hb4
            have H := rdtiles_any a.toNat b.toNat 2 br _ _ _ W3 ha4 hb4 hB3 hbW (by simp) aheadF _ _ (zero_read W3 br pr _ _ _ (a.toNat * b.toNat) hp3 hne (by omega))
            rw [show (a :: b :: rest).drop 2 = rest from rfl] at H
            have hsz := hg3.size
            have hK3 : Kept (· = br) w W3 := .of_grown hg3 (by rintro k ⟨⟩; rfl)
            cases hr : readTs aheadF (a.toNat * b.toNat) [] rest with
            | none =>
              rw [hr] at H
              have hno : readCan (a :: b :: rest) = none := by rw [readCan_cons, if_pos ⟨ha1, ha4, hb1, hb4⟩, hr]; rfl
              go_wp2_with (first | (go_at_call 45; refine (need_true _).mono ?_; rintro e w' ⟨rfl, rfl⟩) | (go_at_call 46; refine H.mono ?_; rintro e w' ⟨rfl, hk⟩))
              rw [hno]; exact ⟨rfl, rfl, hK3.trans hk⟩
            | some p =>
              obtain ⟨A, k⟩ := p
              rw [hr] at H
              have hyes : readCan (a :: b :: rest) = some (a.toNat, b.toNat, A, k + 2) := by rw [readCan_cons, if_pos ⟨ha1, ha4, hb1, hb4⟩, hr]; rfl
              go_wp2_with (first | (go_at_call 45; refine (need_true _).mono ?_; rintro e w' ⟨rfl, rfl⟩) | (go_at_call 46; refine H.mono ?_; rintro e w' ⟨rfl, tl, hI⟩))
              go_end0
              rw [hyes]
              exact ⟨rfl, hK3.trans hI.kept, tl, by have := hI.blk; rwa [Nat.add_comm 2 k] at this, hI.own.1, ownsRow_base hI.own.2 hsz⟩
          · have q4 : decide ((b.toNat : Int) ≤ 4) = false := by simp; omega
            have hno : readCan (a :: b :: rest) = none := by rw [readCan_cons, if_neg (fun h => hb4 h.2.2.2)]
            go_wp2_with (go_at_call 45; refine (need_false _).mono ?_; rintro e w' ⟨rfl, rfl⟩)
            rw [hno]; exact ⟨rfl, rfl, .of_grown hg3 (by rintro k ⟨⟩; rfl)⟩
        · have hno : readCan (a :: b :: rest) = none := by rw [readCan_cons, if_neg (fun h => hb1 h.2.2.1)]
          go_wp2_with (go_at_call 45; refine (need_false _).mono ?_; rintro e w' ⟨rfl, rfl⟩)
          rw [hno]; exact ⟨rfl, rfl, .of_grown hg3 (by rintro k ⟨⟩; rfl)⟩
      · have hno : readCan (a :: b :: rest) = none := by rw [readCan_cons, if_neg (fun h => ha4 h.2.1)]
        go_wp2_with (go_at_call 45; refine (need_false _).mono ?_; rintro e w' ⟨rfl, rfl⟩)
        rw [hno]; exact ⟨rfl, rfl, .of_grown hg3 (by rintro k ⟨⟩; rfl)⟩
    · have hno : readCan (a :: b :: rest) = none := by rw [readCan_cons, if_neg (fun h => ha1 h.1)]
      go_wp2_with (go_at_call 45; refine (need_false _).mono ?_; rintro e w' ⟨rfl, rfl⟩)
      rw [hno]; exact ⟨rfl, rfl, .of_grown hg3 (by rintro k ⟨⟩; rfl)⟩

end Go.Proofs.Ytneajhldmecllaa
