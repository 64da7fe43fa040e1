/- gessolaw10.own, canvas.Alike. -/
import Derived.Test.YtneajhldmecllaaTilesLaw
namespace Go.Proofs.Ytneajhldmecllaa
open Go.RowKit

theorem results_can1 {fn : Func} {p : Tmp} (h : fn.results = #[.cell p 43]) (tmps : Array Value) (w : World) (b : Nat) (t : TypeId) (x y s : Value) (hp : tmps.getD p undef = .pointer (some ⟨b, 0, none⟩)) (hb : Blk w b #[x, y, s] t) :
    (results fn tmps).run Try.prog w = .ok (.agg #[x, y, s]) w := by
  have hp' : tmps[p]?.getD undef = .pointer (some ⟨b, 0, none⟩) := by simpa using hp
  have hl := run_loadVar_row (P := Try.prog) w b t 43 #[x, y, s] (0, 0) _ hb Try.underlying43 rfl can_hi
  simp [results, h, hp', asAddr, hl]

set_option maxRecDepth 100000 in
set_option maxHeartbeats 1000000 in
theorem own_any (x y : Int) (v : Value) (L : List (List Col)) (w : World) (hL : Tiles w v L) :
    Calls Try.prog 18 #[canV x y v] w fun e w' => ∃ v', e = .returned (canV x y v') ∧ OwnT w.heap.size w' v' (L.take 17) ∧ Below w.heap.size w w' := by
  obtain ⟨a, c, rfl, hc, hm⟩ := hL.slice
  unfold maxLen at hm
  obtain ⟨M, hM⟩ : ∃ M, L.take 17 = M := ⟨_, rfl⟩
  rw [hM]
  have HM := Lib.hid hM
  clear hM
  have hB2 : Below w.heap.size w ((w.alloc (.cells #[.int .i64 x, .int .i64 y, .slice a L.length c] 43)).alloc (.cells #[.int .i64 0, .int .i64 0, .slice none 0 0] 43)) := by repeat (first | assumption | exact Below.refl _ _ | refine below_dN ?_ _ | refine Below.alloc ?_ (by first | exact Nat.le_refl _ | omega | (simp; done) | (simp; omega)) _ | refine Below.setCell ?_ (by first | exact Nat.le_refl _ | omega | (simp; done) | (simp; omega)) _ | refine Below.drew ?_ | refine Below.trans ?_ (Below.mono (by assumption) (by first | exact Nat.le_refl _ | omega | (simp; done) | (simp; omega))))
  have k0 := (Blk.new w #[.int .i64 x, .int .i64 y, .slice a L.length c] 43).alloc (.cells #[.int .i64 0, .int .i64 0, .slice none 0 0] 43)
  have k1 := Blk.new (w.alloc (.cells #[.int .i64 x, .int .i64 y, .slice a L.length c] 43)) #[.int .i64 0, .int .i64 0, .slice none 0 0] 43
  simp only [World.size_alloc] at k1
  have hL2 := hL.below hB2
  go_enter Try.func18, Try.ntmps18
  go_wp2
  refine gen_code (fun W => Below w.heap.size w W ∧ Blk W w.heap.size #[.int .i64 x, .int .i64 y, .slice a L.length c] 43 ∧ Blk W (w.heap.size + 1) #[.int .i64 0, .int .i64 0, .slice none 0 0] 43 ∧ Tiles W (.slice a L.length c) L) ⟨hB2, k0, k1, hL2⟩ ?_
  clear hB2 k0 k1 hL2 hL
  rintro W ⟨hB, k0, k1, hL⟩
  have e0 : W.cell? ⟨w.heap.size, 0, none⟩ = some (.int .i64 x) := k0.cell 0
  have e1 : W.cell? ⟨w.heap.size, 1, none⟩ = some (.int .i64 y) := k0.cell 1
  have e2 : W.cell? ⟨w.heap.size, 2, none⟩ = some (.slice a L.length c) := k0.cell 2
  refine wp_region_cuts [.q [_, _, _, _, _, _, _, _, _, _, _], .e _] [_, _] rfl (fun w'' => Below W.heap.size W w'') (by kernel_rfl) (by kernel_rfl) (fun _ _ d _ _ h => by cases d <;> exact h) ?_
  refine cut_q (Below.refl _ W).drew ?_
  repeat (first | (refine wq_min L.length 17 rfl rfl rfl ?_; simp only [Act.put, List.setIfInBounds_toArray, List.set_cons_succ, List.set_cons_zero]; intro k hk1 hk2 hk3) | go_big_quiet_step ((intros; rfl)) | quiet_step ((intros; rfl)) | (refine wq_loadB rfl rfl (by kernel_rfl) (by assumption) ?_; simp only [Act.put, List.setIfInBounds_toArray, List.set_cons_succ, List.set_cons_zero]))
  refine wpQuiet_nil ?_
  refine cut_e ?_
  go_wp2_with fail
  have hLd := (hL.below (Below.refl W.heap.size W).drew).part hk1
  refine (clone_tiles _ _ _ hLd (by simp; omega)).mono ?_
  rintro e w' ⟨v', rfl, ho, hb⟩
  rw [hk3.out, show L.take (min L.length 17) = M from by rw [← HM.out, List.take_eq_take_iff]; omega] at ho
  obtain ⟨a2, c2, rfl, hc2, hm2⟩ := ownsRow_slice ho.2
  have hb' : Below W.heap.size W w' := Below.up (Below.refl W.heap.size W).drew hb
  have k1' := k1.up hb'
  obtain ⟨x1, x2, x3⟩ := k1'.all
  go_wp2
  refine ⟨hb', ?_⟩
  refine cut_end ?_
  go_wp2
  have k3 := ((k1'.set 0 (.int .i64 x)).set 1 (.int .i64 y)).set 2 (.slice a2 M.length c2)
  refine bodyPost_ret (results_can1 (p := 2) (by kernel_rfl) _ _ (w.heap.size + 1) 43 (.int .i64 x) (.int .i64 y) _ rfl k3) rfl ?_
  have hs := hB.size
  have hs1 := k1.lt
  refine ⟨_, rfl, ⟨ho.1, ?_⟩, ?_⟩
  · have hg := gb_set (gb_set (gb_set (gb_refl w' (some (w.heap.size + 1))) 0 (.int .i64 x)) 1 (.int .i64 y)) 2 (.slice a2 M.length c2)
    exact ownsRow_base (ho.2.kept hg (.inr (fun e => own_ne ho.2 (b := w.heap.size + 1) (by simpa using hs1) e.symm))) (by simpa using hs)
  · have hB' := Below.up hB hb'
    repeat (first | assumption | exact Below.refl _ _ | refine below_dN ?_ _ | refine Below.alloc ?_ (by first | exact Nat.le_refl _ | omega | (simp; done) | (simp; omega)) _ | refine Below.setCell ?_ (by first | exact Nat.le_refl _ | omega | (simp; done) | (simp; omega)) _ | refine Below.drew ?_ | refine Below.trans ?_ (Below.mono (by assumption) (by first | exact Nat.le_refl _ | omega | (simp; done) | (simp; omega))))

set_option maxRecDepth 100000 in
set_option maxHeartbeats 1000000 in
theorem alike_any (x y x' y' : Int) (v v' : Value) (L M : List (List Col)) (w : World) (hL : Tiles w v L) (hM : Tiles w v' M) :
    Calls Try.prog 21 #[canV x y v, canV x' y' v'] w fun e w' => e = .returned (.bool (decide (x = x' ∧ y = y' ∧ L = M))) ∧ Below w.heap.size w w' := by
  obtain ⟨a, c, rfl, hc, hm⟩ := hL.slice
  obtain ⟨a', c', rfl, hc', hm'⟩ := hM.slice
  have hB2 : Below w.heap.size w ((w.alloc (.cells #[.int .i64 x, .int .i64 y, .slice a L.length c] 43)).alloc (.cells #[.int .i64 x', .int .i64 y', .slice a' M.length c'] 43)) := by repeat (first | assumption | exact Below.refl _ _ | refine below_dN ?_ _ | refine Below.alloc ?_ (by first | exact Nat.le_refl _ | omega | (simp; done) | (simp; omega)) _ | refine Below.setCell ?_ (by first | exact Nat.le_refl _ | omega | (simp; done) | (simp; omega)) _ | refine Below.drew ?_ | refine Below.trans ?_ (Below.mono (by assumption) (by first | exact Nat.le_refl _ | omega | (simp; done) | (simp; omega))))
  have hL2 := hL.below hB2
  have hM2 := hM.below hB2
  by_cases h1 : x = x'
  · by_cases h2 : y = y'
    · have q1 : (x == x') = true := by simpa using h1
      have q2 : (y == y') = true := by simpa using h2
      have e : decide (x = x' ∧ y = y' ∧ L = M) = decide (L = M) := by simp [h1, h2]
      rw [e]
      clear e h1 h2
      go_enter Try.func21, Try.ntmps21
      go_wp2_with fail
      refine (equal_tiles _ _ _ _ _ hL2 hM2).mono ?_
      rintro e w' ⟨rfl, hb⟩
      go_wp2
      go_ret
      exact ⟨rfl, Below.up hB2 hb⟩
    · have q1 : (x == x') = true := by simpa using h1
      have q2 : (y == y') = false := by simpa using h2
      have e : decide (x = x' ∧ y = y' ∧ L = M) = false := by simp [h2]
      rw [e]
      clear e h1 h2
      go_enter Try.func21, Try.ntmps21
      go_wp2
      go_ret
      exact ⟨rfl, hB2⟩
  · have q1 : (x == x') = false := by simpa using h1
    have e : decide (x = x' ∧ y = y' ∧ L = M) = false := by simp [h1]
    rw [e]
    clear e h1
    go_enter Try.func21, Try.ntmps21
    go_wp2
    go_ret
    exact ⟨rfl, hB2⟩

end Go.Proofs.Ytneajhldmecllaa
