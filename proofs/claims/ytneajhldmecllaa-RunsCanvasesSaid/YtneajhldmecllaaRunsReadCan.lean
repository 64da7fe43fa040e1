/- runs.ReadCanvas, in one. -/
import Derived.Test.YtneajhldmecllaaRunsRdCanvas
namespace Go.Proofs.Ytneajhldmecllaa
open Go.RowKit

theorem can_hi : (Try.prog.info? 43).map (·.size) = some 3 := by kernel_rfl

theorem results_can3 {fn : Func} {p u v : Tmp} (h : fn.results = #[.cell p 43, .tmp u, .tmp v]) (tmps : Array Value) (w : World) (b : Nat) (t : TypeId) (x y s : Value) (hp : tmps.getD p undef = .pointer (some ⟨b, 0, none⟩)) (hb : Blk w b #[x, y, s] t) :
    (results fn tmps).run Try.prog w = .ok (.tuple #[.agg #[x, y, s], tmps.getD u undef, tmps.getD v undef]) w := by
  have hp' : tmps[p]?.getD undef = .pointer (some ⟨b, 0, none⟩) := by simpa using hp
  have hl := run_loadVar_row (P := Try.prog) w b t 43 #[x, y, s] (0, 0) _ hb Try.underlying43 rfl can_hi
  simp [results, h, hp', asAddr, hl]

theorem run_loadVar_can (w : World) (b o : Nat) (x y s : Value) (h0 : w.cell? ⟨b, o, none⟩ = some x) (h1 : w.cell? ⟨b, o + 1, none⟩ = some y) (h2 : w.cell? ⟨b, o + 2, none⟩ = some s) : (loadVar 43 ⟨b, o, none⟩).run Try.prog w = .ok (.agg #[x, y, s]) w := by
  have hl : (loadCells ⟨b, o, none⟩ ([x, y, s] : List Value).length).run Try.prog w = .ok ([x, y, s] : List Value).toArray w :=
    run_loadCells_list (P := Try.prog) w ⟨b, o, none⟩ _ (fun j v hv => by
      have hadd : (⟨b, o, none⟩ : Addr).add j = ⟨b, o + j, none⟩ := by unfold Addr.add; split <;> simp_all
      rw [hadd]
      rcases j with _ | _ | _ | j <;> simp_all)
  have hi := can_hi
  cases hq' : Try.prog.info? 43 with
  | none => simp [hq'] at hi
  | some i =>
    have hs : i.size = 3 := by simpa [hq'] using hi
    have hagg : (isAgg 43).run Try.prog w = .ok true w := by
      unfold isAgg
      rw [Sem.run_bind, run_underlying Try.underlying43 w]
      rfl
    simp only [List.length_cons, List.length_nil] at hl
    simp only [loadVar, Sem.run_bind, hagg, Result.andThen_ok, if_true, sizeOf, typeInfo, run_program, hq', Sem.run_pure, hs, hl]
    first | done | rfl

theorem wq_load_can {ops : Array Oper} {C : World → Prop} {Q : Act → Prop} {rest : List Oper} {a : Act} {dst : Option Tmp} {p : Operand} {ty : TypeId} {pos : String} {af : Array Edge} {g : Option (Nat × Bool)} {b : Nat} {x y s : Value}
    (hw : Region.wanted ⟨dst, .load 43 p, ty, pos, af, g⟩ (yielded ops a.tmps) = true) (hp : a.eval p = .pointer (some ⟨b, 0, none⟩))
    (h : ∀ w, C w → w.cell? ⟨b, 0, none⟩ = some x ∧ w.cell? ⟨b, 1, none⟩ = some y ∧ w.cell? ⟨b, 2, none⟩ = some s) (hk : wpQuiet Try.prog ops C Q rest (a.put dst (.agg #[x, y, s]))) : wpQuiet Try.prog ops C Q (⟨dst, .load 43 p, ty, pos, af, g⟩ :: rest) a :=
  wq_of hw (fun w hC => by
    simp only [execOp, hp, Instr.loadAt, Instr.sureAddr, Sem.run_bind, Sem.run_pure, Result.andThen_ok, run_loadVar_can w b 0 x y s (h w hC).1 (h w hC).2.1 (h w hC).2.2]) hk

/-- what ReadCanvas answers -/
def CanRet (w w' : World) (e : Ending) : Option (Nat × Nat × List (List Col) × Nat) → Prop
  | some (x, y, A, k) => ∃ tl, e = .returned (.tuple #[canV x y tl, .int .i64 k, .int .i64 0]) ∧ OwnT w.heap.size w' tl A
  | none => e = .returned (.tuple #[canV 0 0 (.slice none 0 0), .int .i64 0, .int .i64 200])

set_option maxRecDepth 100000 in
set_option maxHeartbeats 1500000 in
theorem readcan_any (v : Value) (l : List UInt8) (w : World) (hb : Bytes w v l) :
    Calls Try.prog 20 #[v] w fun e w' => Below w.heap.size w w' ∧ CanRet w w' e (readCan l) := by
  have hmf : ∀ (fn : Fn) (first cap : Array Value) (w : World), (Instr.makeFunc fn first cap).run Try.prog w = .ok (.func fn first cap) w := fun _ _ _ _ => rfl
  have hb0 := hb
  obtain ⟨ad, cc, rfl, hc, hcm, hnil, r⟩ := hb0
  have hcf : ∀ (q : Value) (w : World), (callFunc 43 #[q]).run Try.prog w = .ok (.enter 43 #[q]) w := fun q w => by kernel_rfl
  have n0 := Blk.new w #[.int .i64 0, .int .i64 0, .slice none 0 0] 43
  have n1 := Blk.new (w.alloc (.cells #[.int .i64 0, .int .i64 0, .slice none 0 0] 43)) (rdC (.int .i64 0) (.int .i64 0) (.slice none 0 0) (.slice ad l.length cc) 0) 68
  have n2 := Blk.new ((w.alloc (.cells #[.int .i64 0, .int .i64 0, .slice none 0 0] 43)).alloc (.cells (rdC (.int .i64 0) (.int .i64 0) (.slice none 0 0) (.slice ad l.length cc) 0) 68)) (#[rd (w.heap.size + 1)]) 66
  have hB4 : Below w.heap.size w (((w.alloc (.cells #[.int .i64 0, .int .i64 0, .slice none 0 0] 43)).alloc (.cells (rdC (.int .i64 0) (.int .i64 0) (.slice none 0 0) (.slice ad l.length cc) 0) 68)).alloc (.cells (#[rd (w.heap.size + 1)]) 66)) := by repeat (first | assumption | exact Below.refl _ _ | refine below_dN ?_ _ | refine Below.alloc ?_ (by first | exact Nat.le_refl _ | omega | (simp; done) | (simp; omega)) _ | refine Below.setCell ?_ (by first | exact Nat.le_refl _ | omega | (simp; done) | (simp; omega)) _ | refine Below.drew ?_ | refine Below.trans ?_ (Below.mono (by assumption) (by first | exact Nat.le_refl _ | omega | (simp; done) | (simp; omega))))
  have hs4 : (((w.alloc (.cells #[.int .i64 0, .int .i64 0, .slice none 0 0] 43)).alloc (.cells (rdC (.int .i64 0) (.int .i64 0) (.slice none 0 0) (.slice ad l.length cc) 0) 68)).alloc (.cells (#[rd (w.heap.size + 1)]) 66)).heap.size = w.heap.size + 3 := by simp
  replace n0 := (n0.alloc (.cells (rdC (.int .i64 0) (.int .i64 0) (.slice none 0 0) (.slice ad l.length cc) 0) 68)).alloc (.cells (#[rd (w.heap.size + 1)]) 66)
  replace n1 := n1.alloc (.cells (#[rd (w.heap.size + 1)]) 66)
  simp only [World.size_alloc] at n1 n2
  go_enter Try.func20, Try.ntmps20
  obtain ⟨W4, hW4⟩ : ∃ W4, (((w.alloc (.cells #[.int .i64 0, .int .i64 0, .slice none 0 0] 43)).alloc (.cells (rdC (.int .i64 0) (.int .i64 0) (.slice none 0 0) (.slice ad l.length cc) 0) 68)).alloc (.cells (#[rd (w.heap.size + 1)]) 66)) = W4 := ⟨_, rfl⟩
  rw [hW4] at n0 n1 n2 hB4 hs4
  have HW := Lib.hid hW4
  clear hW4
  have hbW : Bytes W4 (.slice ad l.length cc) l := hb.below hB4
  have hbW' := hbW.below ((Below.refl _ W4).alloc (Nat.le_refl _) (.cells #[.bool false] 4))
  have nn := Blk.new W4 #[.bool false] 4
  have H := readcan1_any (w.heap.size + 1) (w.heap.size + 2) (.slice ad l.length cc) l (W4.alloc (.cells #[.bool false] 4)) (n1.alloc _) (n2.alloc _) (by omega) hbW'
  have H2 := reads_any 43 _ (hcf (.pointer (some ⟨w.heap.size + 2, 0, none⟩))) (w.heap.size + 1) W4 (fun w' => CanPost (w.heap.size + 1) (W4.alloc (.cells #[.bool false] 4)) w' (.slice ad l.length cc) (.returned (.tuple #[])) (readCan l) ∧ (readCan l).isSome = true)
    (fun w' => Kept (· = w.heap.size + 1) (W4.alloc (.cells #[.bool false] 4)) w' ∧ readCan l = none) (H.mono (by
      rintro e w' hh
      cases hr : readCan l with
      | none =>
        rw [hr] at hh
        obtain ⟨rfl, hk⟩ := hh
        exact ⟨nn.kept hk (by omega), .inr ⟨rfl, hk, rfl⟩⟩
      | some p =>
        obtain ⟨x, y, A, k⟩ := p
        rw [hr] at hh
        obtain ⟨rfl, hk, hi⟩ := hh
        exact ⟨nn.kept hk (by omega), .inl ⟨rfl, ⟨rfl, hk, hi⟩, rfl⟩⟩))
  go_wp2_with (go_at_call 32; refine calls_world HW.out ?_; refine H2.mono ?_)
  rintro e w' (⟨rfl, w1, ⟨hh, hsome⟩, rfl⟩ | ⟨rfl, w1, w2, ⟨hk, h1⟩, hb2, rfl⟩)
  · obtain ⟨⟨x, y, A, k⟩, hr⟩ := Option.isSome_iff_exists.1 hsome
    rw [hr] at hh
    obtain ⟨_, hk, tl, hblk, hown⟩ := hh
    have hsz : w.heap.size + 4 ≤ w1.heap.size := by have := hk.size; simp at this; omega
    have m0 := ((n0.alloc (.cells #[.bool false] 4)).kept hk (by omega)).other ⟨W4.heap.size, 0, none⟩ (.bool true) (by simp; omega)
    have m2 := ((n2.alloc (.cells #[.bool false] 4)).kept hk (by omega)).other ⟨W4.heap.size, 0, none⟩ (.bool true) (by simp; omega)
    have m1 := hblk.other ⟨W4.heap.size, 0, none⟩ (.bool true) (by simp; omega)
    have hB6 : Below w.heap.size w (w1.setCell ⟨W4.heap.size, 0, none⟩ (.bool true)) := ((hB4.alloc (by omega) _).trans (hk.below (by simp; omega) (by rintro k rfl; omega))).setCell (p := ⟨W4.heap.size, 0, none⟩) (by show w.heap.size ≤ W4.heap.size; omega) _
    have hown6 : OwnT (w.heap.size + 3) (w1.setCell ⟨W4.heap.size, 0, none⟩ (.bool true)) tl A := ⟨hown.1, ownsRow_base ((hown.2.kept (gb_set (gb_refl _ _) 0 _) (.inr (fun e => own_ne hown.2 (b := W4.heap.size) (by simp) e.symm)))) (by simp; omega)⟩
    clear n0 n1 n2 hblk hown hsz hk nn H H2 hbW hbW' HW
    obtain ⟨a5, c5, rfl, hc5, hm5⟩ := ownsRow_slice hown6.2
    obtain ⟨W6, hW6⟩ : ∃ W6, w1.setCell ⟨W4.heap.size, 0, none⟩ (.bool true) = W6 := ⟨_, rfl⟩
    rw [hW6] at m0 m1 m2 hB6 hown6 ⊢
    clear hW6
    go_wp2
    refine wp_region_cuts [.q [_, _, _, _, _, _, _, _], .e _] [_, _] rfl (fun w'' => Blk w'' (w.heap.size + 1) (rdC (.int .i64 x) (.int .i64 y) (.slice a5 A.length c5) (.slice ad l.length cc) k) 68 ∧ Blk w'' (w.heap.size + 2) (#[rd (w.heap.size + 1)]) 66) (by kernel_rfl) (by kernel_rfl) (fun _ _ d _ _ h => by cases d <;> exact h) ?_
    refine cut_q ⟨m1, m2⟩ ?_
    repeat (first | go_big_quiet_step ((intros; rfl)) | quiet_step ((intros; rfl)) | (refine wq_load_can (x := .int .i64 x) (y := .int .i64 y) (s := .slice a5 A.length c5) rfl rfl (fun w'' hC => ⟨hC.1.cell 0, hC.1.cell 1, hC.1.cell 2⟩) ?_; simp only [Act.put, List.setIfInBounds_toArray, List.set_cons_succ, List.set_cons_zero]) | (refine wq_load1 (v := rd (w.heap.size + 1)) rfl rfl (by kernel_rfl) (fun w'' hC => hC.2.cell 0) ?_; simp only [Act.put, List.setIfInBounds_toArray, List.set_cons_succ, List.set_cons_zero]) | (refine wq_load1 (v := .int .i64 k) rfl rfl (by kernel_rfl) (fun w'' hC => hC.1.cell 4) ?_; simp only [Act.put, List.setIfInBounds_toArray, List.set_cons_succ, List.set_cons_zero]) | (refine wq_loadB rfl rfl (by kernel_rfl) (by assumption) ?_; simp only [Act.put, List.setIfInBounds_toArray, List.set_cons_succ, List.set_cons_zero]))
    refine wpQuiet_nil ?_
    obtain ⟨x1, x2, x3⟩ := m0.all
    refine cut_e ?_
    have k0 := ((m0.set 0 (.int .i64 x)).set 1 (.int .i64 y)).set 2 (.slice a5 A.length c5)
    have k1 := ((m1.other ⟨w.heap.size, 0, none⟩ (.int .i64 x) (by simp)).other ⟨w.heap.size, 1, none⟩ (.int .i64 y) (by simp)).other ⟨w.heap.size, 2, none⟩ (.slice a5 A.length c5) (by simp)
    have k2 := ((m2.other ⟨w.heap.size, 0, none⟩ (.int .i64 x) (by simp; omega)).other ⟨w.heap.size, 1, none⟩ (.int .i64 y) (by simp; omega)).other ⟨w.heap.size, 2, none⟩ (.slice a5 A.length c5) (by simp; omega)
    have hg := gb_set (gb_set (gb_set (gb_refl W6 (some w.heap.size)) 0 (.int .i64 x)) 1 (.int .i64 y)) 2 (.slice a5 A.length c5)
    have hown7 : OwnT (w.heap.size + 3) _ (.slice a5 A.length c5) A := hown6.kept hg (by omega)
    have hB7 : Below w.heap.size w (((W6.setCell ⟨w.heap.size, 0, none⟩ (.int .i64 x)).setCell ⟨w.heap.size, 1, none⟩ (.int .i64 y)).setCell ⟨w.heap.size, 2, none⟩ (.slice a5 A.length c5)) := by repeat (first | assumption | exact Below.refl _ _ | refine below_dN ?_ _ | refine Below.alloc ?_ (by first | exact Nat.le_refl _ | omega | (simp; done) | (simp; omega)) _ | refine Below.setCell ?_ (by first | exact Nat.le_refl _ | omega | (simp; done) | (simp; omega)) _ | refine Below.drew ?_ | refine Below.trans ?_ (Below.mono (by assumption) (by first | exact Nat.le_refl _ | omega | (simp; done) | (simp; omega))))
    go_wp2
    refine ⟨⟨k1, k2⟩, ?_⟩
    refine cut_end ?_
    go_wp2
    refine bodyPost_ret (results_can3 (p := 2) (u := 3) (v := 4) (by kernel_rfl) _ _ w.heap.size 43 (.int .i64 x) (.int .i64 y) (.slice a5 A.length c5) rfl k0) rfl ?_
    rw [hr]
    exact ⟨hB7.drew, _, rfl, hown7.1, ownsRow_base (ownsRow_below hown7.2 (B := _) ((Below.refl _ _).drew) (Nat.le_refl _)) (by omega)⟩
  · have hsz : w.heap.size + 4 ≤ w2.heap.size := by have := hk.size; have := hb2.size; simp at *; omega
    have hs1 : w.heap.size + 4 ≤ w1.heap.size := by have := hk.size; simp at this; omega
    have m0 := (((n0.alloc (.cells #[.bool false] 4)).kept hk (by omega)).below hb2 (by omega)).other ⟨W4.heap.size, 0, none⟩ (.bool false) (by simp; omega)
    have hB6 : Below w.heap.size w (w2.setCell ⟨W4.heap.size, 0, none⟩ (.bool false)) := (((hB4.alloc (by omega) _).trans (hk.below (by simp; omega) (by rintro k rfl; omega))).trans (hb2.mono (by omega))).setCell (p := ⟨W4.heap.size, 0, none⟩) (by show w.heap.size ≤ W4.heap.size; omega) _
    clear n0 n1 n2 hsz hk nn H H2 hbW hbW' HW
    obtain ⟨W6, hW6⟩ : ∃ W6, w2.setCell ⟨W4.heap.size, 0, none⟩ (.bool false) = W6 := ⟨_, rfl⟩
    rw [hW6] at m0 hB6 ⊢
    clear hW6
    obtain ⟨x1, x2, x3⟩ := m0.all
    have k0 := ((m0.set 0 (.int .i64 0)).set 1 (.int .i64 0)).set 2 (.slice none 0 0)
    go_wp2
    refine bodyPost_ret (results_can3 (p := 2) (u := 3) (v := 4) (by kernel_rfl) _ _ w.heap.size 43 (.int .i64 0) (.int .i64 0) (.slice none 0 0) rfl k0) rfl ?_
    rw [h1]
    exact ⟨by repeat (first | assumption | exact Below.refl _ _ | refine below_dN ?_ _ | refine Below.alloc ?_ (by first | exact Nat.le_refl _ | omega | (simp; done) | (simp; omega)) _ | refine Below.setCell ?_ (by first | exact Nat.le_refl _ | omega | (simp; done) | (simp; omega)) _ | refine Below.drew ?_ | refine Below.trans ?_ (Below.mono (by assumption) (by first | exact Nat.le_refl _ | omega | (simp; done) | (simp; omega)))), rfl⟩

end Go.Proofs.Ytneajhldmecllaa
