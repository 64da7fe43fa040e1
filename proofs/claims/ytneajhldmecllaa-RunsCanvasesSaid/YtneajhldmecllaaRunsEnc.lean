/- runs.Tile: the bytes of a tile, run by run. -/
import Derived.Test.YtneajhldmecllaaTileOps
import Derived.Test.YtneajhldmecllaaRunsEach
import Derived.Maps.AppendAt
namespace Go.Proofs.Ytneajhldmecllaa
open Go.RowKit Go.Shelf

attribute [local go_sem] Oper.semAt_some

theorem info_u8 : (Try.prog.info? 5).map (fun i => (i.zero, i.size, i.bytes)) = some (some (.int .u8 0), 1, 1) := by kernel_rfl

def rleB (x : Nat × Col) : List UInt8 := [UInt8.ofNat x.1, x.2.r, x.2.g, x.2.b, x.2.a]
/-- the bytes of runs -/
def encR (l : List (Nat × Col)) : List UInt8 := l.flatMap rleB
/-- the bytes of a row, run by run -/
def enc (T : List Col) : List UInt8 := encR (rle T)
theorem encR_snoc (l : List (Nat × Col)) (x : Nat × Col) : encR (l ++ [x]) = encR l ++ rleB x := by simp [encR]

theorem rleB_map (x : Nat × Col) : (rleB x).map vb = [.int .u8 ((x.1 : Int) % 256), vb x.2.r, vb x.2.g, vb x.2.b, vb x.2.a] := by
  simp [rleB, vb]

theorem rleB_map1 (n : Nat) (c : Col) (h : n < 256) : (rleB (n, c)).map vb = [.int .u8 n, vb c.r, vb c.g, vb c.b, vb c.a] := by
  rw [rleB_map]; simp; omega

theorem rleB_len (l : List (Nat × Col)) : (encR l).length = 5 * l.length := by
  unfold encR
  induction l with
  | nil => rfl
  | cons x l ih => rw [List.flatMap_cons, List.length_append, ih]; simp [rleB]; omega

set_option maxHeartbeats 400000 in
theorem each_any (T : List Col) (w : World) :
    Calls Try.prog 31 #[tileV T] w fun e w' => e = .returned (.func (.func 55) #[] #[.pointer (some ⟨w.heap.size, 0, none⟩)]) ∧ w' = w.alloc (.cells (tcells T) 29) := by
  unfold tileV
  go_enter Try.func31, Try.ntmps31
  go_wp2
  go_ret
  exact ⟨rfl, rfl⟩

theorem each_stops (n b : Nat) (T : List Col) (hT : T.length = 64) (w : World) (hb : Blk w b (tcells T) 29) :
    SeqStopsK Fence.wide n Try.prog 55 #[.pointer (some ⟨b, 0, none⟩)] (fun x : Nat × Col => #[Value.int .i64 x.1, colV x.2]) (KeepB b) (fun ys => ys = rle T) (fun pre => pre <+: rle T) 64 w := fun l J Jx W hW hJ _ hY h0 =>
  each1_in n l b T hT J Jx hY (fun s A B row hs hg hr => hJ s A B row hs hg (fun r e => (hr r e).elim)) W (hb.below hW hb.lt) h0

set_option maxRecDepth 100000 in
set_option maxHeartbeats 2000000 in
theorem tile_any (T : List Col) (hT : T.length = 64) (w : World) :
    Calls Try.prog 10 #[tileV T] w fun e w' => ∃ v, e = .returned v ∧ w'.ownsRow w.heap.size 5 1 v (enc T).length ((enc T).map vb) ∧ Below w.heap.size w w' := by
  obtain ⟨i0, hi, hz0, hz1, hz2⟩ := info_parts info_u8
  refine (callsIn_wide (n := 3)).1 ?_
  refine callsIn_of_wp_marks Try.func10 rfl trivial ?_ rfl
  simp only [Try.ntmps10, List.size_toArray, List.length_cons, List.length_nil, Nat.reduceAdd, Nat.reduceSub, Array.replicate_succ, Array.replicate_zero, List.push_toArray, List.append_toArray, List.nil_append, List.cons_append]
  refine wpIn_wide.2 ?_
  have ht : tileV T = .agg (tcells T) := rfl
  go_wp2_with (first | refine wl_load_tile rfl rfl hT ((Blk.new w _ _).alloc _).tileAt ?_ | (go_at_call 31; refine (each_any T _).mono ?_; rintro e w' ⟨rfl, rfl⟩))
  refine (wpIn_wide (n := 3)).1 ?_
  have hB0 : Below w.heap.size w (((w.alloc (.cells (tcells T) 29)).alloc (.cells #[.slice none 0 0] 23)).alloc (.cells (tcells T) 29)) := by
    repeat (first | assumption | exact Below.refl _ _ | refine below_dN ?_ _ | refine Below.alloc ?_ (by first | exact Nat.le_refl _ | omega | (simp; done) | (simp; omega)) _ | refine Below.setCell ?_ (by first | exact Nat.le_refl _ | omega | (simp; done) | (simp; omega)) _ | refine Below.drew ?_ | refine Below.trans ?_ (Below.mono (by assumption) (by first | exact Nat.le_refl _ | omega | (simp; done) | (simp; omega))))
  have bO : Boxed (((w.alloc (.cells (tcells T) 29)).alloc (.cells #[.slice none 0 0] 23)).alloc (.cells (tcells T) 29)) (w.heap.size + 1) 23 (.slice none 0 0) := by
    have := (Boxed.new (w.alloc (.cells (tcells T) 29)) 23 (.slice none 0 0)).alloc (.cells (tcells T) 29)
    simpa using this
  have bT : Blk (((w.alloc (.cells (tcells T) 29)).alloc (.cells #[.slice none 0 0] 23)).alloc (.cells (tcells T) 29)) (w.heap.size + 1 + 1) (tcells T) 29 := by
    have := Blk.new ((w.alloc (.cells (tcells T) 29)).alloc (.cells #[.slice none 0 0] 23)) (tcells T) 29
    simpa using this
  have hsz : (((w.alloc (.cells (tcells T) 29)).alloc (.cells #[.slice none 0 0] 23)).alloc (.cells (tcells T) 29)).heap.size = w.heap.size + 3 := by simp
  obtain ⟨W0, hW0⟩ : ∃ W0, ((w.alloc (.cells (tcells T) 29)).alloc (.cells #[.slice none 0 0] 23)).alloc (.cells (tcells T) 29) = W0 := ⟨_, rfl⟩
  rw [hW0] at hB0 bO bT hsz ⊢
  clear hW0
  refine wpIn_rangeFunc_ownH rfl (by omega) (gf := 55) (lb := #[.pointer (some ⟨w.heap.size + 1 + 1, 0, none⟩)]) rfl trivial (enters_of Try.func55 (by kernel_rfl) rfl)
    (each_stops 2 (w.heap.size + 1 + 1) T hT W0 bT) keepB_t (keepB_b (by omega)) (Below.refl _ _) (fun _ => rfl)
    (fun pre W => (∃ v, Boxed W (w.heap.size + 1) 23 v ∧ W.ownsRow (w.heap.size + 3) 5 1 v (encR pre).length ((encR pre).map vb) ∧ True) ∧ Below w.heap.size w W ∧ w.heap.size + 3 ≤ W.heap.size)
    (fun _ _ _ => False)
    (OwnFrom.and (Own.from (holdsRow_own (w.heap.size + 3) (w.heap.size + 1) 23 5 1 (fun pre : List (Nat × Col) => (encR pre).length) (fun pre => (encR pre).map vb) (fun _ _ => True)) _) (OwnFrom.and (ownFrom_below (Nat.le_refl _) (by omega)) (ownFrom_size _ _)))
    (fun _ _ _ _ _ hs _ _ => hs)
    ⟨⟨_, bO, World.ownsRow_nil _ _ _ _, trivial⟩, hB0, by omega⟩
    (fun x a' W => ∃ Bx, w.heap.size + 3 ≤ Bx ∧ Blk W Bx x.2.cells 27 ∧ a' = { tmps := #[.agg (tcells T), .pointer (some ⟨w.heap.size, 0, none⟩), .slice none 0 0, .pointer (some ⟨w.heap.size + 1, 0, none⟩), .int .i64 x.1, .pointer (some ⟨Bx, 0, none⟩), .agg (tcells T), .func (.func 55) #[] #[.pointer (some ⟨w.heap.size + 1 + 1, 0, none⟩)], .int .i64 x.1, colV x.2, undef, undef, undef, undef, undef, undef, undef, undef, undef, undef, undef, undef, undef, undef], defers := [] })
    (fun x a' _ X Y row hs hg hr => by
      obtain ⟨Bx, h1, h2, h3⟩ := hs
      exact ⟨Bx, h1, h2.grown hg (fun e => by obtain ⟨_, o, ho, hc⟩ := hr Bx e.symm; rw [show X.heap[Bx]? = _ from h2] at ho; cases ho; cases hc), h3⟩)
    ?assign ?body ?done ?stop
  case assign =>
    rintro l pre x W K ⟨⟨v, hv, hrow, _⟩, hB, hs3⟩ hK
    have hlt := hv.lt
    gi_wp2
    exact hK _ _ ((KeepsOthers.alloc _ _).from _) (Below.heap_alloc _ _ _ (by omega)) ⟨⟨v, hv.alloc _, hrow.alloc _, trivial⟩, hB.alloc hB.size _, by simp; omega⟩ ⟨W.heap.size, hs3, Blk.new W _ _, rfl⟩
  case body =>
    rintro l pre x a' W hl ⟨r, hr⟩ ⟨⟨v, hv, hrow, _⟩, hB, hs3⟩ ⟨Bx, hBx, bX, rfl⟩ hlt
    have hpl : (encR pre).length ≤ 320 := by rw [rleB_len]; omega
    obtain ⟨hc, hf, hbx⟩ := bX.all
    have hv1 := hv.cell
    gi_wp2_with (gi_at_builtin; refine wpListIn_append_own _ rfl _ _ 23 rfl (w.heap.size + 3) 5 i0 (.int .u8 0) 1 1 Try.underlying23 hi hz0 hz1 hz2 rfl (by decide) _ _ _ rfl (hrow.alloc _) ⟨W.heap.size, 0, none⟩ 5 5 _ rfl (by rfl) (cells_new _ _ _) (by simp [Value.oneCell']) (by unfold maxLen; omega) (by omega) (by simp; omega) ?_; intro v' w1 hown' hgrow _; obtain ⟨g', cap', rfl⟩ := ownsRow_succ hown'; obtain ⟨k1, k2, k3, k4, k5⟩ := boxed_appended hv (by decide) hrow hown' hgrow; have hc1 := k1.cell; have hf1 := k1.frozen)
    exact ⟨k4.from _, k5 _ (by omega) (by omega) (by omega), ⟨_, k2, by rw [encR_snoc, List.length_append, List.map_append, rleB_map]; exact k3⟩,
      hB.trans (below_of ⟨(hgrow.os).symm, hgrow.tape.symm, hgrow.output.symm, k4.size⟩ (fun c hc => k5 c (by omega) (by omega) (by omega))), Nat.le_trans hs3 k4.size⟩
  case done =>
    rintro D ys W hD rfl ⟨⟨v, hv, hrow, _⟩, hB, hs3⟩ hK
    have hc := hv.cell
    go_wp2
    refine ⟨by simp, .inl ⟨_, _, rfl, run_takeDeferred hK, ?_⟩⟩
    exact ⟨_, results_tmp rfl _ _ _, v, rfl, ownsRow_base (ownsRow_putObj hrow _ hK rfl) (by omega), hB.trans (belowK_b (w := w) (Nat.le_refl _) W D _ _ (by omega) hK rfl rfl)⟩
  case stop =>
    rintro D c pre W _ _ h _
    exact h.elim

end Go.Proofs.Ytneajhldmecllaa
