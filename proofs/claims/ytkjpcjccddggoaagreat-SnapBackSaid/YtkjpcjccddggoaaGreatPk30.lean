/- Walks by data and names, part 30: Laws of single operations on whole tiles (256 cells): load, store, a new variable, == and !=. -/
import Derived.ChangeKeysEq
import Derived.Test.YtkjpcjccddggoaaGreatPk29
namespace Go.Proofs.YtkjpcjccddggoaaGreat
set_option maxRecDepth 20000
open Go.RowKit
theorem tile_hu : Tryz.prog.underlying 109 = some (.array 64 107) := Tryz.underlying109
theorem tile_hi : (Tryz.prog.info? 109).map (·.size) = some 256 := by kernel_rfl
theorem col_hi : (Tryz.prog.info? 107).map (·.size) = some 4 := by kernel_rfl
theorem col_hu : ∃ fs, Tryz.prog.underlying 107 = some (.struct fs) := ⟨_, Tryz.underlying107⟩
/-- the colour of nothing, and a tile of it -/
def noCol : Col := ⟨0, 0, 0, 0⟩
def noTile : List Col := List.replicate 64 noCol
theorem noTile_len : noTile.length = 64 := List.length_replicate
/-- at block b, from offset o on, a tile's cells can be read -/
def TileAt (w : World) (b o : Nat) (T : List Col) : Prop := ∀ j v, (tcells T)[j]? = some v → w.cell? ⟨b, o + j, none⟩ = some v
theorem Blk.tileAt {w : World} {b : Nat} {T : List Col} {t : TypeId} (h : Blk w b (tcells T) t) : TileAt w b 0 T := fun j v hv => by rw [Nat.zero_add, h.cell]; exact hv
theorem TileAt.below {w w' : World} {B b o : Nat} {T : List Col} (h : TileAt w b o T) (hb : Below B w w') (hB : b < B) : TileAt w' b o T := fun j v hv => (hb.cell (p := ⟨b, o + j, none⟩) hB).trans (h j v hv)
theorem tcells_all (T : List Col) : (tcells T).all (·.oneCell') = true := by
  unfold tcells
  simp only [List.all_toArray]
  induction T with
  | nil => rfl
  | cons c T ih => simp [List.flatMap_cons, Value.oneCell']
theorem run_loadVar_tile (w : World) (b o : Nat) (T : List Col) (hT : T.length = 64) (h : TileAt w b o T) : (loadVar 109 ⟨b, o, none⟩).run Tryz.prog w = .ok (tileV T) w := by
  have hl : (loadCells ⟨b, o, none⟩ (tcells T).toList.length).run Tryz.prog w = .ok (tcells T).toList.toArray w :=
    run_loadCells_list (P := Tryz.prog) w ⟨b, o, none⟩ (tcells T).toList (fun j v hv => by
      have hadd : (⟨b, o, none⟩ : Addr).add j = ⟨b, o + j, none⟩ := by unfold Addr.add; split <;> simp_all
      rw [hadd]
      exact h j v (by simpa using hv))
  have hsz : (tcells T).size = 256 := by rw [tcells_size, hT]
  have hq := tile_hi
  cases hq' : Tryz.prog.info? 109 with
  | none => simp [hq'] at hq
  | some i =>
    have hs : i.size = 256 := by simpa [hq'] using hq
    have hagg : (isAgg 109).run Tryz.prog w = .ok true w := by
      unfold isAgg
      rw [Sem.run_bind, run_underlying tile_hu w]
      rfl
    simp only [Array.length_toList, Array.toArray_toList, hsz] at hl
    simp only [loadVar, Sem.run_bind, hagg, Result.andThen_ok, if_true, sizeOf, typeInfo, run_program, hq', Sem.run_pure, hs, hl]
    rfl
section
variable {ops : Array Oper} {Q : Exit → Act → World → Prop} {rest : List Oper} {a : Act} {w : World} {dst : Option Tmp} {p q : Operand} {yt ty : TypeId} {pos : String} {af : Array Edge} {g : Option (Nat × Bool)}
theorem op_load_tile (ev : Operand → Value) {b o : Nat} {T : List Col} (hT : T.length = 64) (hp : ev p = .pointer (some ⟨b, o, none⟩)) (h : TileAt w b o T) :
    (execOp ev ⟨dst, .load 109 p, ty, pos, af, g⟩).run Tryz.prog w = .ok (.value (tileV T)) w := by
  simp only [execOp, hp, Instr.loadAt, Instr.sureAddr, Sem.run_bind, Sem.run_pure, Result.andThen_ok, run_loadVar_tile w b o T hT h]
theorem wl_load_tile {b o : Nat} {T : List Col} (hw : Region.wanted ⟨dst, .load 109 p, ty, pos, af, g⟩ (yielded ops a.tmps) = true) (hp : a.eval p = .pointer (some ⟨b, o, none⟩))
    (hT : T.length = 64) (h : TileAt w b o T) (hk : wpList Tryz.prog ops Q rest (a.put dst (tileV T)) w) : wpList Tryz.prog ops Q (⟨dst, .load 109 p, ty, pos, af, g⟩ :: rest) a w :=
  wl_of hw (op_load_tile _ hT hp h) hk
theorem wq_load_tile {C : World → Prop} {Q : Act → Prop} {b o : Nat} {T : List Col} (hw : Region.wanted ⟨dst, .load 109 p, ty, pos, af, g⟩ (yielded ops a.tmps) = true) (hp : a.eval p = .pointer (some ⟨b, o, none⟩))
    (hT : T.length = 64) (h : ∀ w, C w → TileAt w b o T) (hk : wpQuiet Tryz.prog ops C Q rest (a.put dst (tileV T))) : wpQuiet Tryz.prog ops C Q (⟨dst, .load 109 p, ty, pos, af, g⟩ :: rest) a :=
  wq_of hw (fun w hC => op_load_tile _ hT hp (h w hC)) hk
theorem zeroTile (w : World) : (zeroValue 109).run Tryz.prog w = .ok (tileV noTile) w := by kernel_rfl
/-- a new variable for a tile -/
theorem wl_alloc_tile (hw : Region.wanted ⟨dst, .alloc 109, ty, pos, af, g⟩ (yielded ops a.tmps) = true)
    (hk : wpList Tryz.prog ops Q rest (a.put dst (.pointer (some ⟨w.heap.size, 0, none⟩))) (w.alloc (.cells (tcells noTile) 109))) : wpList Tryz.prog ops Q (⟨dst, .alloc 109, ty, pos, af, g⟩ :: rest) a w := by
  refine wl_of hw ?_ hk
  simp only [execOp, Instr.alloc, Sem.run_bind, zeroTile, Result.andThen_ok]
  rfl
theorem tile_setRow_new (W : World) (c c' : Array Value) (t : TypeId) : (W.alloc (.cells c t)).setRow W.heap.size c' = W.alloc (.cells c' t) := by
  simp only [World.setRow, World.alloc]
  congr 1
  apply Array.ext_getElem?
  intro k
  rw [Array.getElem?_modify, Array.getElem?_push, Array.getElem?_push]
  by_cases h : W.heap.size = k
  · subst h; simp
  · rw [if_neg h, if_neg (fun e => h e.symm), if_neg (fun e => h e.symm)]
theorem op_store_tile (ev : Operand → Value) {n : Nat} {old : Array Value} {t : TypeId} {T : List Col} {W : World} (hT : T.length = 64) (ho : old.size = 256) (hp : ev p = .pointer (some ⟨n, 0, none⟩)) (hq : ev q = tileV T) (hb : Blk W n old t) :
    (execOp ev ⟨dst, .store 109 p q, ty, pos, af, g⟩).run Tryz.prog W = .ok .skip (W.setRow n (tcells T)) := by
  have hsz : (tcells T).size = 256 := by rw [tcells_size, hT]
  have h := run_storeVar_row (P := Tryz.prog) W n t 109 old (tcells T) hb (by rw [hsz]; exact tile_hi) (by rw [hsz, ho]) (tcells_all T)
  simp only [execOp, hp, hq, tileV, Instr.storeAt, Instr.sureAddr, Sem.run_bind, Sem.run_pure, Result.andThen_ok, h]
/-- a tile is stored into a variable that was made just before -/
theorem wl_store_tile_new {n : Nat} {old : Array Value} {t : TypeId} {T : List Col} {W : World} (hw : Region.wanted ⟨dst, .store 109 p q, ty, pos, af, g⟩ (yielded ops a.tmps) = true)
    (hp : a.eval p = .pointer (some ⟨n, 0, none⟩)) (hq : a.eval q = tileV T) (hn : n = W.heap.size) (ho : old.size = 256) (hT : T.length = 64)
    (hk : wpList Tryz.prog ops Q rest (a.put dst undef) (W.alloc (.cells (tcells T) t))) : wpList Tryz.prog ops Q (⟨dst, .store 109 p q, ty, pos, af, g⟩ :: rest) a (W.alloc (.cells old t)) := by
  subst hn
  refine wl_skip hw (op_store_tile _ hT ho hp hq (Blk.new W old t)) ?_
  rw [tile_setRow_new]
  exact hk
/-- a tile is stored into a variable of which the whole block is known -/
theorem wl_store_tile {n : Nat} {old : Array Value} {t : TypeId} {T : List Col} (hw : Region.wanted ⟨dst, .store 109 p q, ty, pos, af, g⟩ (yielded ops a.tmps) = true)
    (hp : a.eval p = .pointer (some ⟨n, 0, none⟩)) (hq : a.eval q = tileV T) (hb : Blk w n old t) (ho : old.size = 256) (hT : T.length = 64)
    (hk : wpList Tryz.prog ops Q rest (a.put dst undef) (w.setRow n (tcells T))) : wpList Tryz.prog ops Q (⟨dst, .store 109 p q, ty, pos, af, g⟩ :: rest) a w :=
  wl_skip hw (op_store_tile _ hT ho hp hq hb) hk
theorem Blk.setRow {b : Nat} {cs cs' : Array Value} {t : TypeId} (h : Blk w b cs t) : Blk (w.setRow b cs') b cs' t := setRow_heap w b cs cs' t _ h
/-! ### == and != on tiles -/
theorem part_col (T : List Col) (i : Nat) (h : i < T.length) (w : World) : (part 107 (tcells T) (i * 4)).run Tryz.prog w = .ok (colV T[i]) w := by
  have hi := col_hi
  obtain ⟨fs, hu⟩ := col_hu
  cases hq' : Tryz.prog.info? 107 with
  | none => simp [hq'] at hi
  | some j =>
    have hs : j.size = 4 := by simpa [hq'] using hi
    have hagg : (isAgg 107).run Tryz.prog w = .ok true w := by
      unfold isAgg
      rw [Sem.run_bind, run_underlying hu w]
      rfl
    obtain ⟨h0, h1, h2, h3⟩ := tcells_at T i h
    have hx : (tcells T).extract (i * 4) (i * 4 + 4) = #[vb T[i].r, vb T[i].g, vb T[i].b, vb T[i].a] := by
      apply Array.ext_getElem?
      intro k
      rw [Array.getElem?_extract]
      have hz := tcells_size T
      rcases k with _ | _ | _ | _ | k
      · simp [h0]; omega
      · simp [h1]; omega
      · simp [h2]; omega
      · simp [h3]; omega
      · simp; omega
    simp only [part, Sem.run_bind, hagg, Result.andThen_ok, if_true, sizeOf, typeInfo, run_program, hq', Sem.run_pure, hs, hx]
theorem sizeOf_col (w : World) : (sizeOf 107).run Tryz.prog w = .ok 4 w := by
  have hi := col_hi
  cases hq' : Tryz.prog.info? 107 with
  | none => simp [hq'] at hi
  | some j =>
    have hs : j.size = 4 := by simpa [hq'] using hi
    simp [sizeOf, typeInfo, hq', hs]
theorem op_index_tile (ev : Operand → Value) {T : List Col} {k : Nat} {w : World} (hT : T.length = 64) (hk : k < 64) (hp : ev p = tileV T) (hq : ev q = .int .i64 k) :
    (execOp ev ⟨dst, .index 109 p q, ty, pos, af, g⟩).run Tryz.prog w = .ok (.value (colV (T[k]'(by omega)))) w := by
  have h0 : (0 : Int) ≤ (k : Int) ∧ (k : Int) < ((64 : Nat) : Int) := ⟨by omega, by omega⟩
  have hpart := part_col T k (by omega) w
  simp only [execOp, hp, hq, Instr.index, asIntOf, Sem.run_bind, Sem.run_pure, Result.andThen_ok, run_underlying tile_hu w, tileV, if_pos h0, sizeOf_col, Int.toNat_natCast, hpart]
theorem wl_index_tile {T : List Col} {k : Nat} (hw : Region.wanted ⟨dst, .index 109 p q, ty, pos, af, g⟩ (yielded ops a.tmps) = true) (hp : a.eval p = tileV T) (hq : a.eval q = .int .i64 k) (hT : T.length = 64) (hk : k < 64)
    (h : wpList Tryz.prog ops Q rest (a.put dst (colV (T[k]'(by omega)))) w) : wpList Tryz.prog ops Q (⟨dst, .index 109 p q, ty, pos, af, g⟩ :: rest) a w :=
  wl_of hw (op_index_tile _ hT hk hp hq) h
theorem cellsOf_col : Tryz.prog.cellsOf 107 = 4 := by kernel_rfl
theorem run_eqItems_tile (d : Nat) (T U : List Col) (w : World) : ∀ (is : List Nat), (∀ i ∈ is, i < T.length ∧ i < U.length) →
    (Op.eqItems (d + 2) 107 4 (tcells T) (tcells U) is).run Tryz.prog w = .ok (decide (∀ i ∈ is, T[i]? = U[i]?)) w
  | [], _ => by simp [Op.eqItems]
  | i :: is, h => by
    obtain ⟨h1, h2⟩ := h i (by simp)
    have ih := run_eqItems_tile d T U w is (fun j hj => h j (by simp [hj]))
    simp only [Op.eqItems, Sem.run_bind, part_col T i h1 w, part_col U i h2 w, Result.andThen_ok, run_eqIn_col d T[i] U[i] w]
    by_cases hc : T[i] = U[i]
    · simp [hc, ih, h1, h2]
    · simp [hc, h1, h2]
theorem run_eqIn_tile (d : Nat) (T U : List Col) (hT : T.length = 64) (hU : U.length = 64) (w : World) : (Op.equalIn (d + 3) 109 (tileV T) (tileV U)).run Tryz.prog w = .ok (T == U) w := by
  have hi := col_hi
  cases hq' : Tryz.prog.info? 107 with
  | none => simp [hq'] at hi
  | some j =>
    unfold tileV
    rw [run_equalIn_array w (d + 2) (tcells T) (tcells U) tile_hu hq', cellsOf_col, run_eqItems_tile d T U w (List.range 64) (by intro i hi; simp at hi; omega)]
    congr 1
    rw [Bool.eq_iff_iff]
    simp only [List.mem_range, decide_eq_true_eq, beq_iff_eq]
    constructor
    · intro h
      apply List.ext_getElem?
      intro i
      by_cases hi : i < 64
      · exact h i hi
      · rw [List.getElem?_eq_none (by omega), List.getElem?_eq_none (by omega)]
    · rintro rfl _ _; rfl
theorem op_eql_tile (op : BinOp) (hop : op = .eql ∨ op = .neq) (ev : Operand → Value) {x y : List Col} (hT : x.length = 64) (hU : y.length = 64) (w : World) (hp : ev p = tileV x) (hq : ev q = tileV y) :
    (execOp ev ⟨dst, .binOp op 109 p q yt, ty, pos, af, g⟩).run Tryz.prog w = .ok (.value (.bool (if op = .eql then (x == y) else (x != y)))) w := by
  have hg := run_eqGuard_agg (P := Tryz.prog) w op 109 p q (tcells x) (tcells y) (by kernel_rfl)
  have h := run_eqIn_tile 9997 x y hT hU w
  unfold tileV at h hp hq
  rcases hop with rfl | rfl
  · have h2 := run_eql_struct (P := Tryz.prog) w 109 (tcells x) (tcells y)
    simp only [execOp, hp, hq, Sem.run_bind, hg, Result.andThen_ok, h2, h]
    rfl
  · have h2 := run_neq_struct (P := Tryz.prog) w 109 (tcells x) (tcells y)
    simp only [execOp, hp, hq, Sem.run_bind, hg, Result.andThen_ok, h2, h]
    rfl
theorem wl_eql_tile {x y : List Col} (hw : Region.wanted ⟨dst, .binOp .eql 109 p q yt, ty, pos, af, g⟩ (yielded ops a.tmps) = true) (hp : a.eval p = tileV x) (hq : a.eval q = tileV y) (hT : x.length = 64) (hU : y.length = 64)
    (h : wpList Tryz.prog ops Q rest (a.put dst (.bool (x == y))) w) : wpList Tryz.prog ops Q (⟨dst, .binOp .eql 109 p q yt, ty, pos, af, g⟩ :: rest) a w :=
  wl_of hw (op_eql_tile .eql (.inl rfl) _ hT hU w hp hq) h
theorem wl_neq_tile {x y : List Col} (hw : Region.wanted ⟨dst, .binOp .neq 109 p q yt, ty, pos, af, g⟩ (yielded ops a.tmps) = true) (hp : a.eval p = tileV x) (hq : a.eval q = tileV y) (hT : x.length = 64) (hU : y.length = 64)
    (h : wpList Tryz.prog ops Q rest (a.put dst (.bool (x != y))) w) : wpList Tryz.prog ops Q (⟨dst, .binOp .neq 109 p q yt, ty, pos, af, g⟩ :: rest) a w :=
  wl_of hw (op_eql_tile .neq (.inr rfl) _ hT hU w hp hq) h
theorem wq_neq_tile {C : World → Prop} {Q : Act → Prop} {x y : List Col} (hw : Region.wanted ⟨dst, .binOp .neq 109 p q yt, ty, pos, af, g⟩ (yielded ops a.tmps) = true) (hp : a.eval p = tileV x) (hq : a.eval q = tileV y) (hT : x.length = 64) (hU : y.length = 64)
    (h : wpQuiet Tryz.prog ops C Q rest (a.put dst (.bool (x != y)))) : wpQuiet Tryz.prog ops C Q (⟨dst, .binOp .neq 109 p q yt, ty, pos, af, g⟩ :: rest) a :=
  wq_of hw (fun w _ => op_eql_tile .neq (.inr rfl) _ hT hU w hp hq) h
end
end Go.Proofs.YtkjpcjccddggoaaGreat
