/- Walks by data and names, part 34: runs.ReadCanvas. runs.ReadCanvas, in one. runs.Apply. -/
import Derived.Test.YtkjpcjccddggoaaGreatQk33
import Derived.Test.YtkjpcjccddggoaaGreatQk32
import Derived.Test.YtkjpcjccddggoaaGreatQk30
import Derived.Test.YtkjpcjccddggoaaGreatQk31
namespace Go.Proofs.YtkjpcjccddggoaaGreat
set_option maxRecDepth 20000
open Go.RowKit
def aheadF (A : List (List Col)) : List Col := aheadZ A A.length
theorem aheadF_len (A : List (List Col)) (h : All64 A) : (aheadF A).length = 64 := by
  unfold aheadF aheadZ
  split
  · exact noTile_len
  · rw [List.getD_eq_getElem?_getD, List.getElem?_eq_getElem (by omega)]; exact h _ (by simp)
set_option maxRecDepth 100000 in
set_option maxHeartbeats 600000 in
theorem zeroread_any (w0 w : World) (br pr : Nat) (wd hg bs tl : Value) (at_ : Nat) (A : List (List Col)) (hI : RdInv br w0 w wd hg bs tl at_ A) (hpr : Blk w0 pr #[rd br] 179) (hne : pr ≠ br) (hl : A.length ≤ 1000) :
    Calls Tryz.prog 126 #[.int .i64 A.length, .pointer (some ⟨pr, 0, none⟩)] w fun e w' => e = .returned (tileV (aheadF A)) ∧ Below w.heap.size w w' := by
  have hp := hpr.kept hI.kept hne
  have hT := hI.own.tiles
  have hB1 : Below w.heap.size w (w.alloc (.cells (tcells noTile) 109)) := by repeat (first | assumption | exact Below.refl _ _ | refine below_dN ?_ _ | refine Below.alloc ?_ (by first | exact Nat.le_refl _ | omega | (simp; fail_if_success (focus skip)) | (simp; omega)) _ | refine Below.setCell ?_ (by first | exact Nat.le_refl _ | omega | (simp; fail_if_success (focus skip)) | (simp; omega)) _ | refine Below.drew ?_ | refine Below.trans ?_ (Below.mono (by assumption) (by first | exact Nat.le_refl _ | omega | (simp; fail_if_success (focus skip)) | (simp; omega))))
  have n0 := Blk.new w (tcells noTile) 109
  have hp1 := (hp.alloc (.cells (tcells noTile) 109)).cell 0
  have hb1 := (hI.blk.alloc (.cells (tcells noTile) 109)).cell 2
  simp only [List.getElem?_toArray, List.getElem?_cons_zero, List.getElem?_cons_succ] at hp1 hb1
  have hT1 := hT.below hB1
  have h64 := aheadF_len A hI.own.1
  obtain ⟨a3, c3, rfl, hc3, hm3⟩ := hT.slice
  have hs1 : (w.alloc (.cells (tcells noTile) 109)).heap.size = w.heap.size + 1 := by simp
  obtain ⟨W1, hW1⟩ : ∃ W1, w.alloc (.cells (tcells noTile) 109) = W1 := ⟨_, rfl⟩
  rw [hW1] at hB1 n0 hp1 hb1 hT1 hs1
  have hT2 := hT1.below ((Below.refl _ W1).alloc (Nat.le_refl _) (.cells #[.slice a3 A.length c3] 48))
  have hk2 := Blk.new W1 #[.slice a3 A.length c3] 48
  have n2 := n0.alloc (.cells #[.slice a3 A.length c3] 48)
  have hc1 := ahead1_any _ A W1.heap.size A.length _ hT2 hk2 (Nat.le_refl _) hl
  have hB2 : Below w.heap.size w (W1.alloc (.cells #[.slice a3 A.length c3] 48)) := hB1.alloc (by omega) _
  have hs2 : (W1.alloc (.cells #[.slice a3 A.length c3] 48)).heap.size = w.heap.size + 2 := by simp [hs1]
  rw [hs1] at hc1
  go_enter Tryz.func126, Tryz.ntmps126
  go_wp2_with (first | refine wl_alloc_tile rfl ?_ | (go_at_call 111; refine (ahead_any _ _ a3 A.length c3 rfl).mono ?_; rintro e w2 ⟨rfl, rfl⟩) | (go_at_call 139; refine hc1.mono ?_; rintro e w3 ⟨rfl, hb3⟩; have n3 := n2.below hb3 n2.lt) | refine wl_store_tile rfl rfl rfl n3 (by rfl) h64 ?_)
  refine bodyPost_ret (results_tile1 (p := 3) (by kernel_rfl) _ _ w.heap.size (aheadF A) h64 rfl (Blk.tileAt (b := w.heap.size) (t := 109) (n3.setRow))) rfl ?_
  exact ⟨rfl, below_row (hB2.trans (hb3.mono (by omega))) _ (Nat.le_refl _) _⟩
theorem zero_read (w0 : World) (br pr : Nat) (wd hg bs : Value) (n : Nat) (hpr : Blk w0 pr #[rd br] 179) (hne : pr ≠ br) (hn : n ≤ 1000) :
    ZeroDyn br w0 wd hg bs (.func (.func 126) #[] #[.pointer (some ⟨pr, 0, none⟩)]) aheadF n 126 (.pointer (some ⟨pr, 0, none⟩)) where
  val := rfl
  enters := fun i w => by kernel_rfl
  len := fun A h _ => aheadF_len A h
  tells := fun w tl at_ A hI hA => zeroread_any w0 w br pr wd hg bs tl at_ A hI hpr hne (by omega)
/-- the canvas that bytes begin with: its sizes, its tiles, and how many bytes -/
def readCan : List UInt8 → Option (Nat × Nat × List (List Col) × Nat)
  | a :: b :: rest =>
    if 1 ≤ a.toNat ∧ a.toNat ≤ 4 ∧ 1 ≤ b.toNat ∧ b.toNat ≤ 4 then (readTs aheadF (a.toNat * b.toNat) [] rest).map fun p => (a.toNat, b.toNat, p.1, p.2 + 2)
    else none
  | _ => none
theorem readCan_cons (a b : UInt8) (rest : List UInt8) : readCan (a :: b :: rest) = if 1 ≤ a.toNat ∧ a.toNat ≤ 4 ∧ 1 ≤ b.toNat ∧ b.toNat ≤ 4 then (readTs aheadF (a.toNat * b.toNat) [] rest).map (fun p => (a.toNat, b.toNat, p.1, p.2 + 2)) else none := rfl
/-- what the inner closure leaves -/
structure CanGot (br : Nat) (w w' : World) (bs : Value) (e : Ending) (x y : Nat) (A : List (List Col)) (k : Nat) : Prop where
  ret : e = .returned (.tuple #[])
  kept : Kept (· = br) w w'
  inv : ∃ tl, Blk w' br (rdC (.int .i64 x) (.int .i64 y) tl bs k) 181 ∧ OwnT w.heap.size w' tl A
def CanPost (br : Nat) (w w' : World) (bs : Value) (e : Ending) : Option (Nat × Nat × List (List Col) × Nat) → Prop
  | some (x, y, A, k) => CanGot br w w' bs e x y A k
  | none => e = .panicked wrongP ∧ Kept (· = br) w w'
set_option maxRecDepth 100000 in
set_option maxHeartbeats 1500000 in
theorem readcan1_any (br pr : Nat) (bs : Value) (l : List UInt8) (w : World) (h : Blk w br (rdC (.int .i64 0) (.int .i64 0) (.slice none 0 0) bs 0) 181) (hpr : Blk w pr #[rd br] 179) (hne : pr ≠ br) (hb : Bytes w bs l) :
    Calls Tryz.prog 122 #[.pointer (some ⟨pr, 0, none⟩)] w fun e w' => CanPost br w w' bs e (readCan l) := by
  obtain ⟨p1, p2, p3⟩ := hpr.all
  have hbs := hb
  obtain ⟨ab, cb, rfl, hcb1, hcb2, _, _⟩ := hbs
  match l, hb with
  | [], hb =>
    go_enter Tryz.func122, Tryz.ntmps122
    go_wp2_with (go_at_call 123; refine (next_no _ _ _ _ 0 br 2 _ _ h hb (by simp) (by omega) (by simp)).mono ?_; rintro e w' ⟨rfl, hb2⟩)
    exact ⟨rfl, rfl, .of_below hb2⟩
  | [_], hb =>
    go_enter Tryz.func122, Tryz.ntmps122
    go_wp2_with (go_at_call 123; refine (next_no _ _ _ _ 0 br 2 _ _ h hb (by simp) (by omega) (by simp)).mono ?_; rintro e w' ⟨rfl, hb2⟩)
    exact ⟨rfl, rfl, .of_below hb2⟩
  | a :: b :: rest, hb =>
    go_enter Tryz.func122, Tryz.ntmps122
    go_wp2_with (go_at_call 123; refine (next_yes _ _ _ _ 0 br 2 _ _ h hb (by simp) (by omega) (by omega) (by simp)).mono ?_; rintro e w1 ⟨v, rfl, hv, hB1, hg1⟩; obtain ⟨av, cv1, rfl, hcv1, hcv2, _, rv⟩ := (show IsSl w1 v 2 [vb a, vb b] from hv))
    obtain ⟨bb, oo, rfl, cb1⟩ := rv 0 (vb a) rfl
    obtain ⟨_, _, e1, cb2⟩ := rv 1 (vb b) rfl
    cases e1
    rw [Nat.add_zero] at cb1
    have hbb : bb ≠ br := by
      rintro rfl
      exact noB_rd 0 0 none ab 0 0 _ cb _ oo a ((hB1.cell oo).symm.trans cb1)
    have hp1 := hpr.grown hg1 (by simpa using hne)
    have ha256 : a.toNat < 256 := a.toNat_lt
    have hb256 : b.toNat < 256 := b.toNat_lt
    refine wp_region_cuts [.q [_, _, _, _, _, _, _, _, _, _, _, _, _], .e _] [_, _, _, _] rfl (fun w'' => Blk w'' pr #[rd br] 179 ∧ w''.cell? ⟨bb, oo, none⟩ = some (vb a) ∧ w''.cell? ⟨bb, oo + 1, none⟩ = some (vb b)) (by kernel_rfl) (by kernel_rfl) (fun _ _ d _ _ h => by cases d <;> exact h) ?_
    refine cut_q ⟨hp1, cb1, cb2⟩ ?_
    repeat (first | go_big_quiet_step ((intros; rfl)) | quiet_step ((intros; rfl)) | (refine wq_load1 (v := rd br) rfl rfl (by kernel_rfl) (fun w'' hC => hC.1.cell 0) ?_; simp only [Act.put, List.setIfInBounds_toArray, List.set_cons_succ, List.set_cons_zero]) | (refine wq_load1 (v := vb a) rfl rfl (by kernel_rfl) (fun w'' hC => hC.2.1) ?_; simp only [Act.put, List.setIfInBounds_toArray, List.set_cons_succ, List.set_cons_zero]) | (refine wq_load1 (v := vb b) rfl rfl (by kernel_rfl) (fun w'' hC => hC.2.2) ?_; simp only [Act.put, List.setIfInBounds_toArray, List.set_cons_succ, List.set_cons_zero]) | (refine wq_loadB rfl rfl (by kernel_rfl) (by assumption) ?_; simp only [Act.put, List.setIfInBounds_toArray, List.set_cons_succ, List.set_cons_zero]))
    refine wpQuiet_nil ?_
    obtain ⟨x1, x2, x3⟩ := hB1.all
    refine cut_e ?_
    go_wp2
    refine ⟨⟨hp1.other ⟨br, 0, none⟩ _ hne, (World.cell?_setCell_other _ _ _ _ (by intro e; injection e with e1; exact hbb e1.symm)).trans cb1, (World.cell?_setCell_other _ _ _ _ (by intro e; injection e with e1; exact hbb e1.symm)).trans cb2⟩, ?_⟩
    refine cut_end ?_
    have hp2 : Blk (w1.setCell ⟨br, 0, none⟩ (.int .i64 a.toNat)).drew pr #[rd br] 179 := hp1.other ⟨br, 0, none⟩ _ hne
    have hB2 : Blk (w1.setCell ⟨br, 0, none⟩ (.int .i64 a.toNat)).drew br (rdC (.int .i64 a.toNat) (.int .i64 0) (.slice none 0 0) (.slice ab (a :: b :: rest).length cb) 2) 181 := hB1.set 0 _
    have hg2 : w.grownBy (w1.setCell ⟨br, 0, none⟩ (.int .i64 a.toNat)).drew (some br) := gb_below (gb_set hg1 0 _) ((Below.refl _ _).drew) (Nat.le_refl _)
    obtain ⟨W2, hW2⟩ : ∃ W2, (w1.setCell ⟨br, 0, none⟩ (.int .i64 a.toNat)).drew = W2 := ⟨_, rfl⟩
    rw [hW2] at hp2 hB2 hg2 ⊢
    clear hW2 hp1 hB1 hg1 cb1 cb2 x1 x2 x3
    obtain ⟨x1, x2, x3⟩ := hB2.all
    have hp3 : Blk (W2.setCell ⟨br, 1, none⟩ (.int .i64 b.toNat)) pr #[rd br] 179 := hp2.other ⟨br, 1, none⟩ _ hne
    have hB3 : Blk (W2.setCell ⟨br, 1, none⟩ (.int .i64 b.toNat)) br (rdC (.int .i64 a.toNat) (.int .i64 b.toNat) (.slice none 0 0) (.slice ab (a :: b :: rest).length cb) 2) 181 := hB2.set 1 _
    have hg3 : w.grownBy (W2.setCell ⟨br, 1, none⟩ (.int .i64 b.toNat)) (some br) := gb_set hg2 1 _
    obtain ⟨W3, hW3⟩ : ∃ W3, W2.setCell ⟨br, 1, none⟩ (.int .i64 b.toNat) = W3 := ⟨_, rfl⟩
    rw [hW3] at hp3 hB3 hg3
    obtain ⟨y1, y2, y3⟩ := hB3.all
    obtain ⟨z1, z2, z3⟩ := hp3.all
    by_cases ha1 : 1 ≤ a.toNat
    · by_cases ha4 : a.toNat ≤ 4
      · by_cases hb1 : 1 ≤ b.toNat
        · by_cases hb4 : b.toNat ≤ 4
          · have q4 : decide ((b.toNat : Int) ≤ 4) = true := by simp; omega
            have hbW : Bytes W3 (.slice ab (a :: b :: rest).length cb) (a :: b :: rest) := hb.keep h (noB_rd _ _ _ _ _ _ _ _ _) hg3
            have hmul := Nat.mul_le_mul ha4 hb4
            have H := rdtiles_any a.toNat b.toNat 2 br _ _ _ W3 ha4 hb4 hB3 hbW (by simp) aheadF _ _ (zero_read W3 br pr _ _ _ (a.toNat * b.toNat) hp3 hne (by omega))
            rw [show (a :: b :: rest).drop 2 = rest from rfl] at H
            have hsz := hg3.size
            have hK3 : Kept (· = br) w W3 := .of_grown hg3 (by rintro k ⟨⟩; rfl)
            cases hr : readTs aheadF (a.toNat * b.toNat) [] rest with
            | none =>
              rw [hr] at H
              have hno : readCan (a :: b :: rest) = none := by rw [readCan_cons, if_pos ⟨ha1, ha4, hb1, hb4⟩, hr]; rfl
              go_wp2_with (first | (go_at_call 124; refine (need_true _).mono ?_; rintro e w' ⟨rfl, rfl⟩) | (go_at_call 125; refine H.mono ?_; rintro e w' ⟨rfl, hk⟩))
              rw [hno]; exact ⟨rfl, rfl, hK3.trans hk⟩
            | some p =>
              obtain ⟨A, k⟩ := p
              rw [hr] at H
              have hyes : readCan (a :: b :: rest) = some (a.toNat, b.toNat, A, k + 2) := by rw [readCan_cons, if_pos ⟨ha1, ha4, hb1, hb4⟩, hr]; rfl
              go_wp2_with (first | (go_at_call 124; refine (need_true _).mono ?_; rintro e w' ⟨rfl, rfl⟩) | (go_at_call 125; refine H.mono ?_; rintro e w' ⟨rfl, tl, hI⟩))
              go_end0
              rw [hyes]
              exact ⟨rfl, hK3.trans hI.kept, tl, by have := hI.blk; rwa [Nat.add_comm 2 k] at this, hI.own.1, ownsRow_base hI.own.2 hsz⟩
          · have q4 : decide ((b.toNat : Int) ≤ 4) = false := by simp; omega
            have hno : readCan (a :: b :: rest) = none := by rw [readCan_cons, if_neg (fun h => hb4 h.2.2.2)]
            go_wp2_with (go_at_call 124; refine (need_false _).mono ?_; rintro e w' ⟨rfl, rfl⟩)
            rw [hno]; exact ⟨rfl, rfl, .of_grown hg3 (by rintro k ⟨⟩; rfl)⟩
        · have hno : readCan (a :: b :: rest) = none := by rw [readCan_cons, if_neg (fun h => hb1 h.2.2.1)]
          go_wp2_with (go_at_call 124; refine (need_false _).mono ?_; rintro e w' ⟨rfl, rfl⟩)
          rw [hno]; exact ⟨rfl, rfl, .of_grown hg3 (by rintro k ⟨⟩; rfl)⟩
      · have hno : readCan (a :: b :: rest) = none := by rw [readCan_cons, if_neg (fun h => ha4 h.2.1)]
        go_wp2_with (go_at_call 124; refine (need_false _).mono ?_; rintro e w' ⟨rfl, rfl⟩)
        rw [hno]; exact ⟨rfl, rfl, .of_grown hg3 (by rintro k ⟨⟩; rfl)⟩
    · have hno : readCan (a :: b :: rest) = none := by rw [readCan_cons, if_neg (fun h => ha1 h.1)]
      go_wp2_with (go_at_call 124; refine (need_false _).mono ?_; rintro e w' ⟨rfl, rfl⟩)
      rw [hno]; exact ⟨rfl, rfl, .of_grown hg3 (by rintro k ⟨⟩; rfl)⟩
end Go.Proofs.YtkjpcjccddggoaaGreat

namespace Go.Proofs.YtkjpcjccddggoaaGreat
set_option maxRecDepth 20000
open Go.RowKit
theorem can_hi : (Tryz.prog.info? 50).map (·.size) = some 3 := by kernel_rfl
theorem results_can3 {fn : Func} {p u v : Tmp} (h : fn.results = #[.cell p 50, .tmp u, .tmp v]) (tmps : Array Value) (w : World) (b : Nat) (t : TypeId) (x y s : Value) (hp : tmps.getD p undef = .pointer (some ⟨b, 0, none⟩)) (hb : Blk w b #[x, y, s] t) :
    (results fn tmps).run Tryz.prog w = .ok (.tuple #[.agg #[x, y, s], tmps.getD u undef, tmps.getD v undef]) w := by
  have hp' : tmps[p]?.getD undef = .pointer (some ⟨b, 0, none⟩) := by simpa using hp
  have hl := run_loadVar_row (P := Tryz.prog) w b t 50 #[x, y, s] (0, 0) _ hb Tryz.underlying50 rfl can_hi
  simp [results, h, hp', asAddr, hl]
theorem run_loadVar_can (w : World) (b o : Nat) (x y s : Value) (h0 : w.cell? ⟨b, o, none⟩ = some x) (h1 : w.cell? ⟨b, o + 1, none⟩ = some y) (h2 : w.cell? ⟨b, o + 2, none⟩ = some s) : (loadVar 50 ⟨b, o, none⟩).run Tryz.prog w = .ok (.agg #[x, y, s]) w := by
  have hl : (loadCells ⟨b, o, none⟩ ([x, y, s] : List Value).length).run Tryz.prog w = .ok ([x, y, s] : List Value).toArray w :=
    run_loadCells_list (P := Tryz.prog) w ⟨b, o, none⟩ _ (fun j v hv => by
      have hadd : (⟨b, o, none⟩ : Addr).add j = ⟨b, o + j, none⟩ := by unfold Addr.add; split <;> simp_all
      rw [hadd]
      rcases j with _ | _ | _ | j <;> simp_all)
  have hi := can_hi
  cases hq' : Tryz.prog.info? 50 with
  | none => simp [hq'] at hi
  | some i =>
    have hs : i.size = 3 := by simpa [hq'] using hi
    have hagg : (isAgg 50).run Tryz.prog w = .ok true w := by
      unfold isAgg
      rw [Sem.run_bind, run_underlying Tryz.underlying50 w]
      rfl
    simp only [List.length_cons, List.length_nil] at hl
    simp only [loadVar, Sem.run_bind, hagg, Result.andThen_ok, if_true, sizeOf, typeInfo, run_program, hq', Sem.run_pure, hs, hl]
    first | done | rfl
theorem wq_load_can {ops : Array Oper} {C : World → Prop} {Q : Act → Prop} {rest : List Oper} {a : Act} {dst : Option Tmp} {p : Operand} {ty : TypeId} {pos : String} {af : Array Edge} {g : Option (Nat × Bool)} {b : Nat} {x y s : Value}
    (hw : Region.wanted ⟨dst, .load 50 p, ty, pos, af, g⟩ (yielded ops a.tmps) = true) (hp : a.eval p = .pointer (some ⟨b, 0, none⟩))
    (h : ∀ w, C w → w.cell? ⟨b, 0, none⟩ = some x ∧ w.cell? ⟨b, 1, none⟩ = some y ∧ w.cell? ⟨b, 2, none⟩ = some s) (hk : wpQuiet Tryz.prog ops C Q rest (a.put dst (.agg #[x, y, s]))) : wpQuiet Tryz.prog ops C Q (⟨dst, .load 50 p, ty, pos, af, g⟩ :: rest) a :=
  wq_of hw (fun w hC => by
    simp only [execOp, hp, Instr.loadAt, Instr.sureAddr, Sem.run_bind, Sem.run_pure, Result.andThen_ok, run_loadVar_can w b 0 x y s (h w hC).1 (h w hC).2.1 (h w hC).2.2]) hk
/-- what ReadCanvas answers -/
def CanRet (w w' : World) (e : Ending) : Option (Nat × Nat × List (List Col) × Nat) → Prop
  | some (x, y, A, k) => ∃ tl, e = .returned (.tuple #[canV x y tl, .int .i64 k, .int .i64 0]) ∧ OwnT w.heap.size w' tl A
  | none => e = .returned (.tuple #[canV 0 0 (.slice none 0 0), .int .i64 0, .int .i64 200])
set_option maxRecDepth 100000 in
set_option maxHeartbeats 1500000 in
theorem readcan_any (v : Value) (l : List UInt8) (w : World) (hb : Bytes w v l) :
    Calls Tryz.prog 79 #[v] w fun e w' => Below w.heap.size w w' ∧ CanRet w w' e (readCan l) := by
  have hmf : ∀ (fn : Fn) (first cap : Array Value) (w : World), (Instr.makeFunc fn first cap).run Tryz.prog w = .ok (.func fn first cap) w := fun _ _ _ _ => rfl
  have hb0 := hb
  obtain ⟨ad, cc, rfl, hc, hcm, hnil, r⟩ := hb0
  have hcf : ∀ (q : Value) (w : World), (callFunc 122 #[q]).run Tryz.prog w = .ok (.enter 122 #[q]) w := fun q w => by kernel_rfl
  have n0 := Blk.new w #[.int .i64 0, .int .i64 0, .slice none 0 0] 50
  have n1 := Blk.new (w.alloc (.cells #[.int .i64 0, .int .i64 0, .slice none 0 0] 50)) (rdC (.int .i64 0) (.int .i64 0) (.slice none 0 0) (.slice ad l.length cc) 0) 181
  have n2 := Blk.new ((w.alloc (.cells #[.int .i64 0, .int .i64 0, .slice none 0 0] 50)).alloc (.cells (rdC (.int .i64 0) (.int .i64 0) (.slice none 0 0) (.slice ad l.length cc) 0) 181)) (#[rd (w.heap.size + 1)]) 179
  have hB4 : Below w.heap.size w (((w.alloc (.cells #[.int .i64 0, .int .i64 0, .slice none 0 0] 50)).alloc (.cells (rdC (.int .i64 0) (.int .i64 0) (.slice none 0 0) (.slice ad l.length cc) 0) 181)).alloc (.cells (#[rd (w.heap.size + 1)]) 179)) := by repeat (first | assumption | exact Below.refl _ _ | refine below_dN ?_ _ | refine Below.alloc ?_ (by first | exact Nat.le_refl _ | omega | (simp; fail_if_success (focus skip)) | (simp; omega)) _ | refine Below.setCell ?_ (by first | exact Nat.le_refl _ | omega | (simp; fail_if_success (focus skip)) | (simp; omega)) _ | refine Below.drew ?_ | refine Below.trans ?_ (Below.mono (by assumption) (by first | exact Nat.le_refl _ | omega | (simp; fail_if_success (focus skip)) | (simp; omega))))
  have hs4 : (((w.alloc (.cells #[.int .i64 0, .int .i64 0, .slice none 0 0] 50)).alloc (.cells (rdC (.int .i64 0) (.int .i64 0) (.slice none 0 0) (.slice ad l.length cc) 0) 181)).alloc (.cells (#[rd (w.heap.size + 1)]) 179)).heap.size = w.heap.size + 3 := by simp
  replace n0 := (n0.alloc (.cells (rdC (.int .i64 0) (.int .i64 0) (.slice none 0 0) (.slice ad l.length cc) 0) 181)).alloc (.cells (#[rd (w.heap.size + 1)]) 179)
  replace n1 := n1.alloc (.cells (#[rd (w.heap.size + 1)]) 179)
  simp only [World.size_alloc] at n1 n2
  go_enter Tryz.func79, Tryz.ntmps79
  obtain ⟨W4, hW4⟩ : ∃ W4, (((w.alloc (.cells #[.int .i64 0, .int .i64 0, .slice none 0 0] 50)).alloc (.cells (rdC (.int .i64 0) (.int .i64 0) (.slice none 0 0) (.slice ad l.length cc) 0) 181)).alloc (.cells (#[rd (w.heap.size + 1)]) 179)) = W4 := ⟨_, rfl⟩
  rw [hW4] at n0 n1 n2 hB4 hs4
  have HW := Lib.hid hW4
  clear hW4
  have hbW : Bytes W4 (.slice ad l.length cc) l := hb.below hB4
  have hbW' := hbW.below ((Below.refl _ W4).alloc (Nat.le_refl _) (.cells #[.bool false] 4))
  have nn := Blk.new W4 #[.bool false] 4
  have H := readcan1_any (w.heap.size + 1) (w.heap.size + 2) (.slice ad l.length cc) l (W4.alloc (.cells #[.bool false] 4)) (n1.alloc _) (n2.alloc _) (by omega) hbW'
  have H2 := reads_any 122 _ (hcf (.pointer (some ⟨w.heap.size + 2, 0, none⟩))) (w.heap.size + 1) W4 (fun w' => CanPost (w.heap.size + 1) (W4.alloc (.cells #[.bool false] 4)) w' (.slice ad l.length cc) (.returned (.tuple #[])) (readCan l) ∧ (readCan l).isSome = true)
    (fun w' => Kept (· = w.heap.size + 1) (W4.alloc (.cells #[.bool false] 4)) w' ∧ readCan l = none) (H.mono (by
      rintro e w' hh
      cases hr : readCan l with
      | none =>
        rw [hr] at hh
        obtain ⟨rfl, hk⟩ := hh
        exact ⟨nn.kept hk (by omega), .inr ⟨rfl, hk, rfl⟩⟩
      | some p =>
        obtain ⟨x, y, A, k⟩ := p
        rw [hr] at hh
        obtain ⟨rfl, hk, hi⟩ := hh
        exact ⟨nn.kept hk (by omega), .inl ⟨rfl, ⟨rfl, hk, hi⟩, rfl⟩⟩))
  go_wp2_with (go_at_call 121; refine calls_world HW.out ?_; refine H2.mono ?_)
  rintro e w' (⟨rfl, w1, ⟨hh, hsome⟩, rfl⟩ | ⟨rfl, w1, w2, ⟨hk, h1⟩, hb2, rfl⟩)
  · obtain ⟨⟨x, y, A, k⟩, hr⟩ := Option.isSome_iff_exists.1 hsome
    rw [hr] at hh
    obtain ⟨_, hk, tl, hblk, hown⟩ := hh
    have hsz : w.heap.size + 4 ≤ w1.heap.size := by have := hk.size; simp at this; omega
    have m0 := ((n0.alloc (.cells #[.bool false] 4)).kept hk (by omega)).other ⟨W4.heap.size, 0, none⟩ (.bool true) (by simp; omega)
    have m2 := ((n2.alloc (.cells #[.bool false] 4)).kept hk (by omega)).other ⟨W4.heap.size, 0, none⟩ (.bool true) (by simp; omega)
    have m1 := hblk.other ⟨W4.heap.size, 0, none⟩ (.bool true) (by simp; omega)
    have hB6 : Below w.heap.size w (w1.setCell ⟨W4.heap.size, 0, none⟩ (.bool true)) := ((hB4.alloc (by omega) _).trans (hk.below (by simp; omega) (by rintro k rfl; omega))).setCell (p := ⟨W4.heap.size, 0, none⟩) (by show w.heap.size ≤ W4.heap.size; omega) _
    have hown6 : OwnT (w.heap.size + 3) (w1.setCell ⟨W4.heap.size, 0, none⟩ (.bool true)) tl A := ⟨hown.1, ownsRow_base ((hown.2.kept (gb_set (gb_refl _ _) 0 _) (.inr (fun e => own_ne hown.2 (b := W4.heap.size) (by simp) e.symm)))) (by simp; omega)⟩
    clear n0 n1 n2 hblk hown hsz hk nn H H2 hbW hbW' HW
    obtain ⟨a5, c5, rfl, hc5, hm5⟩ := ownsRow_slice hown6.2
    obtain ⟨W6, hW6⟩ : ∃ W6, w1.setCell ⟨W4.heap.size, 0, none⟩ (.bool true) = W6 := ⟨_, rfl⟩
    rw [hW6] at m0 m1 m2 hB6 hown6 ⊢
    clear hW6
    go_wp2
    refine wp_region_cuts [.q [_, _, _, _, _, _, _, _], .e _] [_, _] rfl (fun w'' => Blk w'' (w.heap.size + 1) (rdC (.int .i64 x) (.int .i64 y) (.slice a5 A.length c5) (.slice ad l.length cc) k) 181 ∧ Blk w'' (w.heap.size + 2) (#[rd (w.heap.size + 1)]) 179) (by kernel_rfl) (by kernel_rfl) (fun _ _ d _ _ h => by cases d <;> exact h) ?_
    refine cut_q ⟨m1, m2⟩ ?_
    repeat (first | go_big_quiet_step ((intros; rfl)) | quiet_step ((intros; rfl)) | (refine wq_load_can (x := .int .i64 x) (y := .int .i64 y) (s := .slice a5 A.length c5) rfl rfl (fun w'' hC => ⟨hC.1.cell 0, hC.1.cell 1, hC.1.cell 2⟩) ?_; simp only [Act.put, List.setIfInBounds_toArray, List.set_cons_succ, List.set_cons_zero]) | (refine wq_load1 (v := rd (w.heap.size + 1)) rfl rfl (by kernel_rfl) (fun w'' hC => hC.2.cell 0) ?_; simp only [Act.put, List.setIfInBounds_toArray, List.set_cons_succ, List.set_cons_zero]) | (refine wq_load1 (v := .int .i64 k) rfl rfl (by kernel_rfl) (fun w'' hC => hC.1.cell 4) ?_; simp only [Act.put, List.setIfInBounds_toArray, List.set_cons_succ, List.set_cons_zero]) | (refine wq_loadB rfl rfl (by kernel_rfl) (by assumption) ?_; simp only [Act.put, List.setIfInBounds_toArray, List.set_cons_succ, List.set_cons_zero]))
    refine wpQuiet_nil ?_
    obtain ⟨x1, x2, x3⟩ := m0.all
    refine cut_e ?_
    have k0 := ((m0.set 0 (.int .i64 x)).set 1 (.int .i64 y)).set 2 (.slice a5 A.length c5)
    have k1 := ((m1.other ⟨w.heap.size, 0, none⟩ (.int .i64 x) (by simp)).other ⟨w.heap.size, 1, none⟩ (.int .i64 y) (by simp)).other ⟨w.heap.size, 2, none⟩ (.slice a5 A.length c5) (by simp)
    have k2 := ((m2.other ⟨w.heap.size, 0, none⟩ (.int .i64 x) (by simp; omega)).other ⟨w.heap.size, 1, none⟩ (.int .i64 y) (by simp; omega)).other ⟨w.heap.size, 2, none⟩ (.slice a5 A.length c5) (by simp; omega)
    have hg := gb_set (gb_set (gb_set (gb_refl W6 (some w.heap.size)) 0 (.int .i64 x)) 1 (.int .i64 y)) 2 (.slice a5 A.length c5)
    have hown7 : OwnT (w.heap.size + 3) _ (.slice a5 A.length c5) A := hown6.kept hg (by omega)
    have hB7 : Below w.heap.size w (((W6.setCell ⟨w.heap.size, 0, none⟩ (.int .i64 x)).setCell ⟨w.heap.size, 1, none⟩ (.int .i64 y)).setCell ⟨w.heap.size, 2, none⟩ (.slice a5 A.length c5)) := by repeat (first | assumption | exact Below.refl _ _ | refine below_dN ?_ _ | refine Below.alloc ?_ (by first | exact Nat.le_refl _ | omega | (simp; fail_if_success (focus skip)) | (simp; omega)) _ | refine Below.setCell ?_ (by first | exact Nat.le_refl _ | omega | (simp; fail_if_success (focus skip)) | (simp; omega)) _ | refine Below.drew ?_ | refine Below.trans ?_ (Below.mono (by assumption) (by first | exact Nat.le_refl _ | omega | (simp; fail_if_success (focus skip)) | (simp; omega))))
    go_wp2
    refine ⟨⟨k1, k2⟩, ?_⟩
    refine cut_end ?_
    go_wp2
    refine bodyPost_ret (results_can3 (p := 2) (u := 3) (v := 4) (by kernel_rfl) _ _ w.heap.size 50 (.int .i64 x) (.int .i64 y) (.slice a5 A.length c5) rfl k0) rfl ?_
    rw [hr]
    exact ⟨hB7.drew, _, rfl, hown7.1, ownsRow_base (ownsRow_below hown7.2 (B := _) ((Below.refl _ _).drew) (Nat.le_refl _)) (by omega)⟩
  · have hsz : w.heap.size + 4 ≤ w2.heap.size := by have := hk.size; have := hb2.size; simp at *; omega
    have hs1 : w.heap.size + 4 ≤ w1.heap.size := by have := hk.size; simp at this; omega
    have m0 := (((n0.alloc (.cells #[.bool false] 4)).kept hk (by omega)).below hb2 (by omega)).other ⟨W4.heap.size, 0, none⟩ (.bool false) (by simp; omega)
    have hB6 : Below w.heap.size w (w2.setCell ⟨W4.heap.size, 0, none⟩ (.bool false)) := (((hB4.alloc (by omega) _).trans (hk.below (by simp; omega) (by rintro k rfl; omega))).trans (hb2.mono (by omega))).setCell (p := ⟨W4.heap.size, 0, none⟩) (by show w.heap.size ≤ W4.heap.size; omega) _
    clear n0 n1 n2 hsz hk nn H H2 hbW hbW' HW
    obtain ⟨W6, hW6⟩ : ∃ W6, w2.setCell ⟨W4.heap.size, 0, none⟩ (.bool false) = W6 := ⟨_, rfl⟩
    rw [hW6] at m0 hB6 ⊢
    clear hW6
    obtain ⟨x1, x2, x3⟩ := m0.all
    have k0 := ((m0.set 0 (.int .i64 0)).set 1 (.int .i64 0)).set 2 (.slice none 0 0)
    go_wp2
    refine bodyPost_ret (results_can3 (p := 2) (u := 3) (v := 4) (by kernel_rfl) _ _ w.heap.size 50 (.int .i64 0) (.int .i64 0) (.slice none 0 0) rfl k0) rfl ?_
    rw [h1]
    exact ⟨by repeat (first | assumption | exact Below.refl _ _ | refine below_dN ?_ _ | refine Below.alloc ?_ (by first | exact Nat.le_refl _ | omega | (simp; fail_if_success (focus skip)) | (simp; omega)) _ | refine Below.setCell ?_ (by first | exact Nat.le_refl _ | omega | (simp; fail_if_success (focus skip)) | (simp; omega)) _ | refine Below.drew ?_ | refine Below.trans ?_ (Below.mono (by assumption) (by first | exact Nat.le_refl _ | omega | (simp; fail_if_success (focus skip)) | (simp; omega)))), rfl⟩
end Go.Proofs.YtkjpcjccddggoaaGreat

namespace Go.Proofs.YtkjpcjccddggoaaGreat
set_option maxRecDepth 20000
open Go.RowKit
theorem tlc_vb (L : List (List Col)) (u : Value) (h : u ∈ tlc L) : ∃ x : UInt8, u = vb x := by
  unfold tlc tcells at h
  obtain ⟨T, _, h⟩ := List.mem_flatMap.1 h
  simp only [] at h
  obtain ⟨c, _, h⟩ := List.mem_flatMap.1 h
  simp at h
  rcases h with rfl | rfl | rfl | rfl <;> exact ⟨_, rfl⟩
theorem Tiles.kept {w w' : World} {v : Value} {L : List (List Col)} {br : Nat} {cs : Array Value} {t : TypeId} (h : Tiles w v L) (hb : Blk w br cs t) (hn : noB cs) (hg : Kept (· = br) w w') : Tiles w' v L := by
  obtain ⟨h64, a, c, e, h1, h2, h3, r⟩ := h
  refine ⟨h64, a, c, e, h1, h2, h3, fun j u hu => ?_⟩
  obtain ⟨b, o, ea, hc⟩ := r j u hu
  refine ⟨b, o, ea, ?_⟩
  have hlt := World.block_lt_of_cell? w _ hc
  have hne : b ≠ br := by
    rintro rfl
    obtain ⟨x, rfl⟩ := tlc_vb L u (List.mem_of_getElem? hu)
    exact hn _ x ((hb.cell _).symm.trans hc)
  rw [← hc]
  unfold World.cell?
  rw [hg.block b hlt hne]
end Go.Proofs.YtkjpcjccddggoaaGreat

namespace Go.Proofs.YtkjpcjccddggoaaGreat
set_option maxRecDepth 20000
theorem bodyB_congr (Z Z' : Nat → List Col) (L : List (List Col)) : ∀ k, (∀ j, j < L.length → Z (k + j) = Z' (k + j)) → bodyB Z k L = bodyB Z' k L := by
  induction L with
  | nil => intro k _; rfl
  | cons T L ih =>
    intro k h
    have h0 := h 0 (by simp)
    simp only [Nat.add_zero] at h0
    unfold bodyB
    rw [h0, ih (k + 1) (fun j hj => by have := h (j + 1) (by simpa using hj); rwa [show k + 1 + j = k + (j + 1) from by omega])]
theorem readTs_own (Zf : List (List Col) → List Col) (hZ : ∀ A, All64 A → (Zf A).length = 64) : ∀ (m : Nat) (A : List (List Col)) (l : List UInt8) (A' : List (List Col)) (n : Nat), All64 A → readTs Zf m A l = some (A', n) →
    ∃ rest, A' = A ++ rest ∧ rest.length = m ∧ All64 rest ∧ n ≤ l.length ∧ bodyB (fun i => Zf (A'.take i)) A.length rest = l.take n
  | 0, A, l, A', n, _, h => by
    simp [readTs] at h
    obtain ⟨rfl, rfl⟩ := h
    exact ⟨[], by simp, rfl, by simp [All64], by omega, by simp [bodyB]⟩
  | m + 1, A, [], A', n, _, h => by simp [readTs] at h
  | m + 1, A, b :: l, A', n, hA, h => by
    unfold readTs at h
    by_cases hb : b = 0
    · rw [if_pos hb] at h
      obtain ⟨⟨B, k⟩, h1, h2⟩ := Option.map_eq_some_iff.1 h
      simp only [Prod.mk.injEq] at h2
      obtain ⟨rfl, rfl⟩ := h2
      have hz := hZ A hA
      obtain ⟨rest, rfl, h4, h5, h6, h7⟩ := readTs_own Zf hZ m (A ++ [Zf A]) l B k (by intro T hT; rcases List.mem_append.1 hT with h | h; exact hA T h; rw [List.mem_singleton.1 h]; exact hz) h1
      refine ⟨Zf A :: rest, by simp, by simp [h4], by intro T hT; rcases List.mem_cons.1 hT with h | h; rw [h]; exact hz; exact h5 T h, by simp; omega, ?_⟩
      have e : (A ++ [Zf A]).length = A.length + 1 := by simp
      rw [e] at h7
      unfold bodyB
      rw [h7]
      have hz2 : Zf ((A ++ [Zf A] ++ rest).take A.length) = Zf A := by rw [List.append_assoc, List.take_left' rfl]
      simp only [hz2]
      unfold stepB
      rw [if_pos rfl, hb]
      simp
    · rw [if_neg hb] at h
      cases hr : readT [] (b :: l) with
      | none => rw [hr] at h; cases h
      | some p =>
        obtain ⟨T, k⟩ := p
        rw [hr] at h
        simp only at h
        split at h
        · cases h
        · rename_i hT
          obtain ⟨⟨B, k'⟩, h1, h2⟩ := Option.map_eq_some_iff.1 h
          simp only [Prod.mk.injEq] at h2
          obtain ⟨rfl, rfl⟩ := h2
          have hT64 := readT_len _ _ _ _ hr
          obtain ⟨g1, g2, g3⟩ := read_own (b :: l) T k hr
          obtain ⟨rest, rfl, h4, h5, h6, h7⟩ := readTs_own Zf hZ m (A ++ [T]) _ B k' (by intro U hU; rcases List.mem_append.1 hU with h | h; exact hA U h; rw [List.mem_singleton.1 h]; exact hT64) h1
          rw [List.length_drop] at h6
          refine ⟨T :: rest, by simp, by simp [h4], by intro U hU; rcases List.mem_cons.1 hU with h | h; rw [h]; exact hT64; exact h5 U h, by omega, ?_⟩
          have e : (A ++ [T]).length = A.length + 1 := by simp
          rw [e] at h7
          unfold bodyB
          rw [h7]
          have hz2 : Zf ((A ++ [T] ++ rest).take A.length) = Zf A := by rw [List.append_assoc, List.take_left' rfl]
          simp only [hz2]
          unfold stepB
          rw [if_neg hT, ← g3, Nat.add_comm k' k, List.take_add]
theorem ahead_take (L : List (List Col)) : bodyB (aheadZ L) 0 L = bodyB (fun i => aheadF (L.take i)) 0 L := by
  apply bodyB_congr
  intro j hj
  simp only [Nat.zero_add]
  unfold aheadF aheadZ
  rw [List.length_take, Nat.min_eq_left (by omega)]
  split
  · rfl
  · rw [List.getD_eq_getElem?_getD, List.getD_eq_getElem?_getD, List.getElem?_take, if_pos (by omega)]
theorem readcan_own (l : List UInt8) (a b : Nat) (L : List (List Col)) (n : Nat) (h : readCan l = some (a, b, L, n)) :
    (1 ≤ a ∧ a ≤ 4) ∧ (1 ≤ b ∧ b ≤ 4) ∧ L.length = a * b ∧ All64 L ∧ n ≤ l.length ∧ 2 ≤ n ∧ canvasB a b L = l.take n := by
  match l, h with
  | [], h => simp [readCan] at h
  | [_], h => simp [readCan] at h
  | p :: q :: rest, h =>
    rw [readCan_cons] at h
    split at h
    · rename_i hh
      obtain ⟨⟨B, k⟩, h1, h2⟩ := Option.map_eq_some_iff.1 h
      simp only [Prod.mk.injEq] at h2
      obtain ⟨rfl, rfl, rfl, rfl⟩ := h2
      obtain ⟨rest', e, h4, h5, h6, h7⟩ := readTs_own aheadF (fun A hA => aheadF_len A hA) _ [] _ _ _ (by simp [All64]) h1
      simp only [List.nil_append] at e
      subst e
      refine ⟨⟨hh.1, hh.2.1⟩, ⟨hh.2.2.1, hh.2.2.2⟩, h4, h5, by simp; omega, by omega, ?_⟩
      unfold canvasB headB
      rw [ahead_take]
      simp only [List.length_nil] at h7
      rw [h7]
      simp
    · cases h
end Go.Proofs.YtkjpcjccddggoaaGreat

namespace Go.Proofs.YtkjpcjccddggoaaGreat
set_option maxRecDepth 20000
open Go.RowKit
def spotT : List Col := noTile.set 0 ⟨255, 0, 0, 255⟩
end Go.Proofs.YtkjpcjccddggoaaGreat

namespace Go.Proofs.YtkjpcjccddggoaaGreat
set_option maxRecDepth 20000
open Go.RowKit
structure WkInv (w W : World) (p3 : Nat) (v : Value) : Prop where
  bel : Below w.heap.size w W
  b1 : Blk W w.heap.size (tcells noTile) 109
  b2 : Blk W (w.heap.size + 1) (tcells spotT) 109
  b3 : Blk W p3 #[.int .i64 2, .int .i64 1, v] 50
  ts : Tiles W v [noTile, noTile]
theorem WkInv.below {w W W' : World} {p3 : Nat} {v : Value} (h : WkInv w W p3 v) (hb : Below W.heap.size W W') : WkInv w W' p3 v :=
  ⟨h.bel.trans (hb.mono h.bel.size), h.b1.below hb h.b1.lt, h.b2.below hb h.b2.lt, h.b3.below hb h.b3.lt, h.ts.below hb⟩
end Go.Proofs.YtkjpcjccddggoaaGreat
