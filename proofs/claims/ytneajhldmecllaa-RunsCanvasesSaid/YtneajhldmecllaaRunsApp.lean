/- runs.Apply, in one. -/
import Derived.Test.YtneajhldmecllaaRunsApply
namespace Go.Proofs.Ytneajhldmecllaa
open Go.RowKit

/-- what Apply answers -/
def AppRet (w w' : World) (e : Ending) (ok : Bool) : Option (Nat × Nat × List (List Col) × Nat) → Prop
  | some (x, y, A, k) => if ok then ∃ tl, e = .returned (.tuple #[canV x y tl, .int .i64 k, .int .i64 0]) ∧ OwnT w.heap.size w' tl A else e = .returned (.tuple #[canV 0 0 (.slice none 0 0), .int .i64 0, .int .i64 150])
  | none => e = .returned (.tuple #[canV 0 0 (.slice none 0 0), .int .i64 0, .int .i64 (if ok then 200 else 150)])

/-- what the reading of a patch leaves -/
def AppMid (w w' : World) (bs : Value) (e : Ending) : Option (Nat × Nat × List (List Col) × Nat) → Prop
  | some (x, y, A, k) => e = .returned (.bool true) ∧ ∃ tl, Blk w' w.heap.size (rdC (.int .i64 x) (.int .i64 y) tl bs k) 68 ∧ Blk w' (w.heap.size + 1) #[rd w.heap.size] 66 ∧ OwnT w.heap.size w' tl A
  | none => e = .returned (.bool false)

theorem app_reads (X Y : Nat) (O : List (List Col)) (ov bs : Value) (pa : Nat) (l : List UInt8) (w : World) (hX : X ≤ 4) (hY : Y ≤ 4) (hO : Tiles w ov O) (hOl : X * Y ≤ O.length) (hpa : Blk w pa #[.int .i64 X, .int .i64 Y, ov] 43) (hb : Bytes w bs l) :
    Calls Try.prog 32 #[rd w.heap.size, .func (.func 53) #[] #[.pointer (some ⟨w.heap.size + 1, 0, none⟩), .pointer (some ⟨pa, 0, none⟩)]] ((w.alloc (.cells (rdC (.int .i64 0) (.int .i64 0) (.slice none 0 0) bs 0) 68)).alloc (.cells #[rd w.heap.size] 66)) fun e w' =>
      Below w.heap.size w w' ∧ AppMid w w' bs e (readApp X Y O l) := by
  have hcf : ∀ (q q' : Value) (w : World), (callFunc 53 #[q, q']).run Try.prog w = .ok (.enter 53 #[q, q']) w := fun q q' w => by kernel_rfl
  have hpl := hpa.lt
  have n1 := (Blk.new w (rdC (.int .i64 0) (.int .i64 0) (.slice none 0 0) bs 0) 68).alloc (.cells #[rd w.heap.size] 66)
  have n2 := Blk.new (w.alloc (.cells (rdC (.int .i64 0) (.int .i64 0) (.slice none 0 0) bs 0) 68)) #[rd w.heap.size] 66
  have n3 := (hpa.alloc (.cells (rdC (.int .i64 0) (.int .i64 0) (.slice none 0 0) bs 0) 68)).alloc (.cells #[rd w.heap.size] 66)
  have hB4 : Below w.heap.size w ((w.alloc (.cells (rdC (.int .i64 0) (.int .i64 0) (.slice none 0 0) bs 0) 68)).alloc (.cells #[rd w.heap.size] 66)) := by repeat (first | assumption | exact Below.refl _ _ | refine below_dN ?_ _ | refine Below.alloc ?_ (by first | exact Nat.le_refl _ | omega | (simp; done) | (simp; omega)) _ | refine Below.setCell ?_ (by first | exact Nat.le_refl _ | omega | (simp; done) | (simp; omega)) _ | refine Below.drew ?_ | refine Below.trans ?_ (Below.mono (by assumption) (by first | exact Nat.le_refl _ | omega | (simp; done) | (simp; omega))))
  have hs4 : ((w.alloc (.cells (rdC (.int .i64 0) (.int .i64 0) (.slice none 0 0) bs 0) 68)).alloc (.cells #[rd w.heap.size] 66)).heap.size = w.heap.size + 2 := by simp
  simp only [World.size_alloc] at n2
  obtain ⟨W4, hW4⟩ : ∃ W4, (w.alloc (.cells (rdC (.int .i64 0) (.int .i64 0) (.slice none 0 0) bs 0) 68)).alloc (.cells #[rd w.heap.size] 66) = W4 := ⟨_, rfl⟩
  rw [hW4] at n1 n2 n3 hB4 hs4 ⊢
  clear hW4
  have hB5 : Below w.heap.size w (W4.alloc (.cells #[.bool false] 4)) := hB4.alloc (by omega) _
  have nn := Blk.new W4 #[.bool false] 4
  have H := applyin_any X Y O ov w.heap.size (w.heap.size + 1) pa bs l (W4.alloc (.cells #[.bool false] 4)) hX hY (hO.below hB5) hOl (n1.alloc _) (n2.alloc _) (by omega) (n3.alloc _) (by omega) (hb.below hB5)
  have H2 := reads_any 53 _ (hcf (.pointer (some ⟨w.heap.size + 1, 0, none⟩)) (.pointer (some ⟨pa, 0, none⟩))) w.heap.size W4 (fun w' => CanPost w.heap.size (W4.alloc (.cells #[.bool false] 4)) w' bs (.returned (.tuple #[])) (readApp X Y O l) ∧ (readApp X Y O l).isSome = true)
    (fun w' => Kept (· = w.heap.size) (W4.alloc (.cells #[.bool false] 4)) w' ∧ readApp X Y O l = none) (H.mono (by
      rintro e w' hh
      cases hr : readApp X Y O l with
      | none =>
        rw [hr] at hh
        obtain ⟨rfl, hk⟩ := hh
        exact ⟨nn.kept hk (by omega), .inr ⟨rfl, hk, rfl⟩⟩
      | some p =>
        obtain ⟨x, y, A, k⟩ := p
        rw [hr] at hh
        obtain ⟨rfl, hk, hi⟩ := hh
        exact ⟨nn.kept hk (by omega), .inl ⟨rfl, ⟨rfl, hk, hi⟩, rfl⟩⟩))
  refine H2.mono ?_
  rintro e w' (⟨rfl, w1, ⟨hh, hsome⟩, rfl⟩ | ⟨rfl, w1, w2, ⟨hk, h1⟩, hb2, rfl⟩)
  · obtain ⟨⟨x, y, A, k⟩, hr⟩ := Option.isSome_iff_exists.1 hsome
    rw [hr] at hh ⊢
    obtain ⟨_, hk, tl, hblk, hown⟩ := hh
    have m2 := ((n2.alloc (.cells #[.bool false] 4)).kept hk (by omega)).other ⟨W4.heap.size, 0, none⟩ (.bool true) (by simp; omega)
    have m1 := hblk.other ⟨W4.heap.size, 0, none⟩ (.bool true) (by simp; omega)
    have hB6 : Below w.heap.size w (w1.setCell ⟨W4.heap.size, 0, none⟩ (.bool true)) := (hB5.trans (hk.below (by simp; omega) (by rintro k rfl; omega))).setCell (p := ⟨W4.heap.size, 0, none⟩) (by show w.heap.size ≤ W4.heap.size; omega) _
    exact ⟨hB6, rfl, tl, m1, m2, hown.1, ownsRow_base ((hown.2.kept (gb_set (gb_refl _ _) 0 _) (.inr (fun e => own_ne hown.2 (b := W4.heap.size) (by simp) e.symm)))) (by simp; omega)⟩
  · rw [h1]
    exact ⟨((hB5.trans (hk.below (by simp; omega) (by rintro k rfl; omega))).trans (hb2.mono (by have := hk.size; simp at this; omega))).setCell (p := ⟨W4.heap.size, 0, none⟩) (by show w.heap.size ≤ W4.heap.size; omega) _, rfl⟩

set_option maxRecDepth 100000 in
set_option maxHeartbeats 1500000 in
theorem apply_any (x y : Int) (ov bv : Value) (O : List (List Col)) (l : List UInt8) (w : World) (hO : Tiles w ov O) (hb : Bytes w bv l) :
    Calls Try.prog 28 #[canV x y ov, bv] w fun e w' => Below w.heap.size w w' ∧ AppRet w w' e (canOk x y O.length) (readApp x.toNat y.toNat O l) := by
  have hmf : ∀ (fn : Fn) (first cap : Array Value) (w : World), (Instr.makeFunc fn first cap).run Try.prog w = .ok (.func fn first cap) w := fun _ _ _ _ => rfl
  have hb0 := hb
  obtain ⟨ad, cc, rfl, hc, hcm, hnil, r⟩ := hb0
  have hO0 := hO
  obtain ⟨ao, co, rfl, hco, hcmo⟩ := hO0.slice
  have hcf : ∀ (q q' : Value) (w : World), (callFunc 53 #[q, q']).run Try.prog w = .ok (.enter 53 #[q, q']) w := fun q q' w => by kernel_rfl
  have hs2 : ((w.alloc (.cells #[.int .i64 x, .int .i64 y, .slice ao O.length co] 43)).alloc (.cells #[.int .i64 0, .int .i64 0, .slice none 0 0] 43)).heap.size = w.heap.size + 2 := by simp
  have k0 := (Blk.new w #[.int .i64 x, .int .i64 y, .slice ao O.length co] 43).alloc (.cells #[.int .i64 0, .int .i64 0, .slice none 0 0] 43)
  have k1 := Blk.new (w.alloc (.cells #[.int .i64 x, .int .i64 y, .slice ao O.length co] 43)) #[.int .i64 0, .int .i64 0, .slice none 0 0] 43
  have hB2 : Below w.heap.size w ((w.alloc (.cells #[.int .i64 x, .int .i64 y, .slice ao O.length co] 43)).alloc (.cells #[.int .i64 0, .int .i64 0, .slice none 0 0] 43)) := by repeat (first | assumption | exact Below.refl _ _ | refine below_dN ?_ _ | refine Below.alloc ?_ (by first | exact Nat.le_refl _ | omega | (simp; done) | (simp; omega)) _ | refine Below.setCell ?_ (by first | exact Nat.le_refl _ | omega | (simp; done) | (simp; omega)) _ | refine Below.drew ?_ | refine Below.trans ?_ (Below.mono (by assumption) (by first | exact Nat.le_refl _ | omega | (simp; done) | (simp; omega))))
  simp only [World.size_alloc] at k1
  have hO2 := hO.below hB2
  obtain ⟨W2, hW2⟩ : ∃ W2, (w.alloc (.cells #[.int .i64 x, .int .i64 y, .slice ao O.length co] 43)).alloc (.cells #[.int .i64 0, .int .i64 0, .slice none 0 0] 43) = W2 := ⟨_, rfl⟩
  rw [hW2] at k0 k1 hB2 hO2 hs2
  obtain ⟨p1, p2, p3⟩ := k0.all
  cases hok : canOk x y O.length with
  | false =>
    go_enter Try.func28, Try.ntmps28
    go_wp2_with (go_at_call 40; with_reducible refine (check_any x y _ O _ hO2).mono ?_; rw [hok]; rintro e w' ⟨rfl, hb3⟩; have j1 := k1.below hb3 k1.lt; obtain ⟨y1, y2, y3⟩ := j1.all)
    have k5 := ((j1.set 0 (.int .i64 0)).set 1 (.int .i64 0)).set 2 (.slice none 0 0)
    refine bodyPost_ret (results_can3 (p := 4) (u := 5) (v := 6) (by kernel_rfl) _ _ (w.heap.size + 1) 43 (.int .i64 0) (.int .i64 0) (.slice none 0 0) rfl k5) rfl ?_
    have hB3 := hB2.trans (hb3.mono (by omega))
    refine ⟨by repeat (first | assumption | exact Below.refl _ _ | refine below_dN ?_ _ | refine Below.alloc ?_ (by first | exact Nat.le_refl _ | omega | (simp; done) | (simp; omega)) _ | refine Below.setCell ?_ (by first | exact Nat.le_refl _ | omega | (simp; done) | (simp; omega)) _ | refine Below.drew ?_ | refine Below.trans ?_ (Below.mono (by assumption) (by first | exact Nat.le_refl _ | omega | (simp; done) | (simp; omega)))), ?_⟩
    unfold AppRet
    cases readApp x.toNat y.toNat O l <;> rfl
  | true =>
    have hxy : 1 ≤ x ∧ x ≤ 4 ∧ 1 ≤ y ∧ y ≤ 4 := by unfold canOk at hok; simp at hok; exact ⟨hok.1, hok.2.1, hok.2.2.1, hok.2.2.2.1⟩
    have hol : (O.length : Int) = x * y := by unfold canOk at hok; simp at hok; exact hok.2.2.2.2
    obtain ⟨X, rfl, hX⟩ := int_nat x ⟨hxy.1, hxy.2.1⟩
    obtain ⟨Y, rfl, hY⟩ := int_nat y ⟨hxy.2.2.1, hxy.2.2.2⟩
    have hol' : Hid (X * Y ≤ O.length) := by refine Lib.hid ?_; have := hol; rw [← Int.natCast_mul] at this; omega
    clear hxy hol
    have HOK := Lib.hid hok
    rw [show ((X : Int)).toNat = X from rfl, show ((Y : Int)).toNat = Y from rfl]
    cases hr : readApp X Y O l with
    | none =>
      go_enter Try.func28, Try.ntmps28
      go_wp2_with (first | (go_at_call 40; with_reducible refine (check_any X Y _ O _ hO2).mono ?_; rw [hok]; rintro e w' ⟨rfl, hb3⟩; have j1 := k1.below hb3 k1.lt; have j0 := k0.below hb3 k0.lt; have hs3 := hb3.size; have hO3 := hO2.below hb3; have hB3 := hB2.trans (hb3.mono (by omega)); have hbW := hb.below hB3) | (go_at_call 32; refine (app_reads X Y O _ _ w.heap.size l w' hX hY hO3 hol'.out j0 hbW).mono ?_; rw [hr]; rintro e w6 ⟨hB6, rfl⟩; have j6 := j1.below hB6 j1.lt; obtain ⟨y1, y2, y3⟩ := j6.all))
      have k5 := ((j6.set 0 (.int .i64 0)).set 1 (.int .i64 0)).set 2 (.slice none 0 0)
      refine bodyPost_ret (results_can3 (p := 4) (u := 5) (v := 6) (by kernel_rfl) _ _ (w.heap.size + 1) 43 (.int .i64 0) (.int .i64 0) (.slice none 0 0) rfl k5) rfl ?_
      have hB7 := hB3.trans (hB6.mono (by omega))
      refine ⟨by repeat (first | assumption | exact Below.refl _ _ | refine below_dN ?_ _ | refine Below.alloc ?_ (by first | exact Nat.le_refl _ | omega | (simp; done) | (simp; omega)) _ | refine Below.setCell ?_ (by first | exact Nat.le_refl _ | omega | (simp; done) | (simp; omega)) _ | refine Below.drew ?_ | refine Below.trans ?_ (Below.mono (by assumption) (by first | exact Nat.le_refl _ | omega | (simp; done) | (simp; omega)))), rfl⟩
    | some p =>
      obtain ⟨x, y, A, k⟩ := p
      go_enter Try.func28, Try.ntmps28
      go_wp2_with (first | (go_at_call 40; with_reducible refine (check_any X Y _ O _ hO2).mono ?_; rw [hok]; rintro e w' ⟨rfl, hb3⟩; have j1 := k1.below hb3 k1.lt; have j0 := k0.below hb3 k0.lt; have hs3 := hb3.size; have hO3 := hO2.below hb3; have hB3 := hB2.trans (hb3.mono (by omega)); have hbW := hb.below hB3) | (go_at_call 32; refine (app_reads X Y O _ _ w.heap.size l w' hX hY hO3 hol'.out j0 hbW).mono ?_; rw [hr]; rintro e w6 ⟨hB6, rfl, tl, m1, m2, hown⟩; have j6 := j1.below hB6 j1.lt))
      obtain ⟨a5, c5, rfl, hc5, hm5⟩ := ownsRow_slice hown.2
      refine wp_region_cuts [.q [_, _, _, _, _, _, _, _], .e _] [_, _] rfl (fun w'' => Blk w'' w'.heap.size (rdC (.int .i64 x) (.int .i64 y) (.slice a5 A.length c5) (.slice ad l.length cc) k) 68 ∧ Blk w'' (w'.heap.size + 1) (#[rd w'.heap.size]) 66) (by kernel_rfl) (by kernel_rfl) (fun _ _ d _ _ h => by cases d <;> exact h) ?_
      refine cut_q ⟨m1, m2⟩ ?_
      repeat (first | go_big_quiet_step ((intros; rfl)) | quiet_step ((intros; rfl)) | (refine wq_load_can (x := .int .i64 x) (y := .int .i64 y) (s := .slice a5 A.length c5) rfl rfl (fun w'' hC => ⟨hC.1.cell 0, hC.1.cell 1, hC.1.cell 2⟩) ?_; simp only [Act.put, List.setIfInBounds_toArray, List.set_cons_succ, List.set_cons_zero]) | (refine wq_load1 (v := rd w'.heap.size) rfl rfl (by kernel_rfl) (fun w'' hC => hC.2.cell 0) ?_; simp only [Act.put, List.setIfInBounds_toArray, List.set_cons_succ, List.set_cons_zero]) | (refine wq_load1 (v := .int .i64 k) rfl rfl (by kernel_rfl) (fun w'' hC => hC.1.cell 4) ?_; simp only [Act.put, List.setIfInBounds_toArray, List.set_cons_succ, List.set_cons_zero]) | (refine wq_loadB rfl rfl (by kernel_rfl) (by assumption) ?_; simp only [Act.put, List.setIfInBounds_toArray, List.set_cons_succ, List.set_cons_zero]))
      refine wpQuiet_nil ?_
      obtain ⟨x1, x2, x3⟩ := j6.all
      refine cut_e ?_
      have k5 := ((j6.set 0 (.int .i64 x)).set 1 (.int .i64 y)).set 2 (.slice a5 A.length c5)
      have f1 := ((m1.other ⟨w.heap.size + 1, 0, none⟩ (.int .i64 x) (by simp; omega)).other ⟨w.heap.size + 1, 1, none⟩ (.int .i64 y) (by simp; omega)).other ⟨w.heap.size + 1, 2, none⟩ (.slice a5 A.length c5) (by simp; omega)
      have f2 := ((m2.other ⟨w.heap.size + 1, 0, none⟩ (.int .i64 x) (by simp; omega)).other ⟨w.heap.size + 1, 1, none⟩ (.int .i64 y) (by simp; omega)).other ⟨w.heap.size + 1, 2, none⟩ (.slice a5 A.length c5) (by simp; omega)
      have hg := gb_set (gb_set (gb_set (gb_refl w6 (some (w.heap.size + 1))) 0 (.int .i64 x)) 1 (.int .i64 y)) 2 (.slice a5 A.length c5)
      have hown7 : OwnT w'.heap.size _ (.slice a5 A.length c5) A := hown.kept hg (by omega)
      have hB7 := hB3.trans (hB6.mono (by omega))
      have hB8 : Below w.heap.size w (((w6.setCell ⟨w.heap.size + 1, 0, none⟩ (.int .i64 x)).setCell ⟨w.heap.size + 1, 1, none⟩ (.int .i64 y)).setCell ⟨w.heap.size + 1, 2, none⟩ (.slice a5 A.length c5)) := by repeat (first | assumption | exact Below.refl _ _ | refine below_dN ?_ _ | refine Below.alloc ?_ (by first | exact Nat.le_refl _ | omega | (simp; done) | (simp; omega)) _ | refine Below.setCell ?_ (by first | exact Nat.le_refl _ | omega | (simp; done) | (simp; omega)) _ | refine Below.drew ?_ | refine Below.trans ?_ (Below.mono (by assumption) (by first | exact Nat.le_refl _ | omega | (simp; done) | (simp; omega))))
      go_wp2
      refine ⟨⟨f1, f2⟩, ?_⟩
      refine cut_end ?_
      go_wp2
      refine bodyPost_ret (results_can3 (p := 4) (u := 5) (v := 6) (by kernel_rfl) _ _ (w.heap.size + 1) 43 (.int .i64 x) (.int .i64 y) (.slice a5 A.length c5) rfl k5) rfl ?_
      exact ⟨hB8.drew, _, rfl, hown7.1, ownsRow_base (ownsRow_below hown7.2 (B := _) ((Below.refl _ _).drew) (Nat.le_refl _)) (by omega)⟩

end Go.Proofs.Ytneajhldmecllaa
