/- Walks by data and names, part 28: Layer 21, by V: numbers, pieces. runs: need, the reader's next.  -/
import Derived.StillTailTactics
import Derived.ChangeKeysEq
import Derived.Test.YtkjpcjccddggoaaGreatQk26
import Derived.Test.YtkjpcjccddggoaaGreatQk27
import Derived.Test.YtkjpcjccddggoaaGreatQk3
import Derived.Test.YtkjpcjccddggoaaGreatQk1
namespace Go.Proofs.YtkjpcjccddggoaaGreat
open Go.RowKit
set_option maxRecDepth 10000
set_option maxHeartbeats 4000000
abbrev byD (b : List UInt8) : List (List D) := b.map fun x => [.lit (vb x)]
theorem byD_len (b : List UInt8) : (byD b).length = b.length := List.length_map _
abbrev i64D (n : Int) : D := .lit (.int .i64 n)
abbrev u64D (n : Int) : D := .lit (.int .u64 n)
abbrev bsD (b : List UInt8) : D := .sl false false (byD b)
abbrev errD (e : Int) : D := .ifc 27 (i64D e)
theorem u8_ne {x z : UInt8} (h : (x.toNat : Int) ≠ z.toNat) : x ≠ z := fun e => h (by rw [e])
theorem u8_eq {x z : UInt8} (h : ¬ (x.toNat : Int) ≠ z.toNat) : x = z := UInt8.toNat_inj.1 (by omega)
theorem cutM {α : Type} (f : α → List D) (l : List α) (n : Nat) : cutL none (some (min ((l.map f).length : Int) (n : Int))) (l.map f) = (l.take n).map f := by
  rw [cutL_eq]
  simp only [Option.getD_some, Option.getD_none, Int.toNat_zero, List.drop_zero, ← List.map_take, List.length_map]
  congr 1
  rw [show (min (l.length : Int) (n : Int)).toNat = min n l.length by omega]
  simp [List.take_eq_take_iff]
theorem cutA {α : Type} (f : α → List D) (l : List α) (i j : Nat) : cutL (some (i : Int)) (some (j : Int)) (l.map f) = ((l.take j).drop i).map f := by
  rw [cutL_eq]; simp [List.map_take, List.map_drop]
theorem cutB {α : Type} (f : α → List D) (l : List α) (i : Nat) : cutL (some (i : Int)) none (l.map f) = (l.drop i).map f := by
  rw [cutL_eq]; simp only [Option.getD_some, Option.getD_none, Int.toNat_natCast, List.length_map, List.map_drop]; rw [List.take_of_length_le (by simp)]
theorem need_ok (e : Int) : VP Tryz.prog 68 [.lit (.bool true), i64D e] (· = .ret (.tup [])) := by
  refine vp_of Tryz.func68 rfl Tryz.ntmps68 rfl Tryz.results68 fun B => ?_
  repeat' (first | fail | fail | refine nzl ?_ | refine nzd ?_ | ((first | with_reducible refine vl_id ?_ | with_reducible refine vd_id ?_); first | fail) | refine nzo ?_ | refine nc ?_ ?_ | (with_reducible intro _ <;> (try (exfalso; omega))) | refine vs_eqnil ?_ | refine vs_nenil ?_ | (refine nd ?_ ?_ <;> intro hg <;> (first | (exfalso; (try simp only [decide_eq_true_eq, decide_eq_false_iff_not] at hg); omega) | rw [hg])) | fail)
  all_goals rfl
theorem need_no (e : Int) : VP Tryz.prog 68 [.lit (.bool false), i64D e] (· = .panic (errD e)) := by
  refine vp_of Tryz.func68 rfl Tryz.ntmps68 rfl Tryz.results68 fun B => ?_
  repeat' (first | fail | fail | refine nzl ?_ | refine nzd ?_ | ((first | with_reducible refine vl_id ?_ | with_reducible refine vd_id ?_); first | fail) | refine nzo ?_ | refine nc ?_ ?_ | (with_reducible intro _ <;> (try (exfalso; omega))) | refine vs_eqnil ?_ | refine vs_nenil ?_ | (refine nd ?_ ?_ <;> intro hg <;> (first | (exfalso; (try simp only [decide_eq_true_eq, decide_eq_false_iff_not] at hg); omega) | rw [hg])) | fail)
  all_goals rfl
theorem need_if (c : Bool) (e : Int) : VP Tryz.prog 68 [.lit (.bool c), i64D e] (· = if c then .ret (.tup []) else .panic (errD e)) := by
  cases c with
  | true => exact need_ok e
  | false => exact need_no e
def numB (n : Int) : Bool := decide (1 ≤ n) && decide (n ≤ 4611686018427387904)
theorem number_v (n : Int) : VP Tryz.prog 51 [u64D n] (· = .ret (.lit (.bool (numB n)))) := by
  refine vp_of Tryz.func51 rfl Tryz.ntmps51 rfl Tryz.results51 fun B => ?_
  repeat' (first | fail | fail | refine nzl ?_ | refine nzd ?_ | ((first | with_reducible refine vl_id ?_ | with_reducible refine vd_id ?_); first | fail) | refine nzo ?_ | refine nc ?_ ?_ | (with_reducible intro _ <;> (try (exfalso; omega))) | refine vs_eqnil ?_ | refine vs_nenil ?_ | (refine nd ?_ ?_ <;> intro hg <;> (first | (exfalso; (try simp only [decide_eq_true_eq, decide_eq_false_iff_not] at hg); omega) | rw [hg])) | fail)
  all_goals simp [numB, *]
def manyI (n : Int) : Int := (n + 255) / 256
theorem many_v (n : Int) (h0 : 0 ≤ n) (h1 : n ≤ 140737488355328) : VP Tryz.prog 90 [i64D n] (· = .ret (i64D (manyI n))) := by
  refine vp_of Tryz.func90 rfl Tryz.ntmps90 rfl Tryz.results90 fun B => ?_
  repeat' (first | fail | fail | refine nzl ?_ | refine nzd ?_ | ((first | with_reducible refine vl_id ?_ | with_reducible refine vd_id ?_); first | fail) | refine nzo ?_ | refine nc ?_ ?_ | (with_reducible intro _ <;> (try (exfalso; omega))) | refine vs_eqnil ?_ | refine vs_nenil ?_ | (refine nd ?_ ?_ <;> intro hg <;> (first | (exfalso; (try simp only [decide_eq_true_eq, decide_eq_false_iff_not] at hg); omega) | rw [hg])) | fail)
  have h2 : (n + 256 - 1).tdiv 256 = (n + 255) / 256 := by rw [show n + 256 - 1 = n + 255 by omega, Int.tdiv_eq_ediv_of_nonneg (by omega)]
  all_goals (simp only [manyI]; rw [h2, wrap_in (by simp only [inK]; omega)])
def partB (i m n : Int) : Bool := decide (n = 256) || (decide (i = m - 1) && decide (1 ≤ n) && decide (n < 256))
theorem fits_v (i m n : Int) (hm : -100 ≤ m) (hm' : m ≤ 1000) : VP Tryz.prog 50 [i64D i, i64D m, i64D n] (· = .ret (.lit (.bool (partB i m n)))) := by
  refine vp_of Tryz.func50 rfl Tryz.ntmps50 rfl Tryz.results50 fun B => ?_
  repeat' (first | fail | fail | refine nzl ?_ | refine nzd ?_ | ((first | with_reducible refine vl_id ?_ | with_reducible refine vd_id ?_); first | fail) | refine nzo ?_ | refine nc ?_ ?_ | (with_reducible intro _ <;> (try (exfalso; omega))) | refine vs_eqnil ?_ | refine vs_nenil ?_ | (refine nd ?_ ?_ <;> intro hg <;> (first | (exfalso; (try simp only [decide_eq_true_eq, decide_eq_false_iff_not] at hg); omega) | rw [hg])) | fail)
  all_goals simp [partB, *]
/-- a piece -/
structure Pc where
  snap : Int
  idx : Int
  many : Int
  b : List UInt8
deriving DecidableEq
abbrev pcD (p : Pc) : List D := [u64D p.snap, i64D p.idx, i64D p.many, bsD p.b]
def pcB (p : Pc) : Bool := numB p.snap && decide (1 ≤ p.many) && decide (p.many ≤ 64) && decide (0 ≤ p.idx) && decide (p.idx < p.many) && partB p.idx p.many p.b.length
theorem piece_v (p : Pc) : VP Tryz.prog 29 [.agg (pcD p)] (· = .ret (i64D (if pcB p then 0 else 311))) := by
  have hl := byD_len p.b
  simp only [pcD]
  by_cases hm : 1 ≤ p.many ∧ p.many ≤ 64
  · have cf := fits_v p.idx p.many (byD p.b).length (by omega) (by omega)
    refine vp_of Tryz.func29 rfl Tryz.ntmps29 rfl Tryz.results29 fun B => ?_
    repeat' (first | fail | fail | refine nzl ?_ | refine nzd ?_ | ((first | with_reducible refine vl_id ?_ | with_reducible refine vd_id ?_); first | refine cz (number_v p.snap) ?_ | refine cz (cf) ?_) | refine nzo ?_ | refine nc ?_ ?_ | (with_reducible intro _ <;> (try (exfalso; omega))) | refine vs_eqnil ?_ | refine vs_nenil ?_ | (refine nd ?_ ?_ <;> intro hg <;> (first | (exfalso; (try simp only [decide_eq_true_eq, decide_eq_false_iff_not] at hg); omega) | rw [hg])) | fail)
    all_goals (rw [hl] at *; simp_all [pcB]; try omega)
  · refine vp_of Tryz.func29 rfl Tryz.ntmps29 rfl Tryz.results29 fun B => ?_
    repeat' (first | fail | fail | refine nzl ?_ | refine nzd ?_ | ((first | with_reducible refine vl_id ?_ | with_reducible refine vd_id ?_); first | refine cz (number_v p.snap) ?_) | refine nzo ?_ | refine nc ?_ ?_ | (with_reducible intro _ <;> (try (exfalso; omega))) | refine vs_eqnil ?_ | refine vs_nenil ?_ | (refine nd ?_ ?_ <;> intro hg <;> (first | (exfalso; (try simp only [decide_eq_true_eq, decide_eq_false_iff_not] at hg); omega) | rw [hg])) | fail)
    all_goals (simp_all [pcB]; try omega)
end Go.Proofs.YtkjpcjccddggoaaGreat

namespace Go.Proofs.YtkjpcjccddggoaaGreat
set_option maxRecDepth 20000
open Go.RowKit
/-- what 'need' panics with -/
abbrev wrongV : Value := .iface 211 (.agg #[])
abbrev wrongP : List PanicEntry := [{ v := wrongV, recovered := false }]
set_option maxHeartbeats 400000 in
theorem need_true (w : World) : Calls Tryz.prog 124 #[.bool true] w fun e w' => e = .returned (.tuple #[]) ∧ w = w' := by
  go_enter Tryz.func124, Tryz.ntmps124
  go_wp2
  go_end0
  exact ⟨rfl, rfl⟩
set_option maxHeartbeats 400000 in
theorem need_false (w : World) : Calls Tryz.prog 124 #[.bool false] w fun e w' => e = .panicked wrongP ∧ w = w' := by
  go_enter Tryz.func124, Tryz.ntmps124
  go_wp2
  exact ⟨rfl, rfl, rfl⟩
/-- a reader's cells -/
abbrev rdC (wd hg : Value) (tl bs : Value) (at_ : Nat) : Array Value := #[wd, hg, tl, bs, .int .i64 at_]
set_option maxHeartbeats 400000 in
theorem next_no (wd hg tl bs : Value) (at_ br many : Nat) (l : List UInt8) (w : World) (h : Blk w br (rdC wd hg tl bs at_) 181) (hb : Bytes w bs l) (ha : at_ ≤ l.length) (hm : many ≤ 5) (hno : l.length < at_ + many) :
    Calls Tryz.prog 123 #[.pointer (some ⟨br, 0, none⟩), .int .i64 many] w fun e w' => e = .panicked wrongP ∧ Below w.heap.size w w' := by
  obtain ⟨a, c, rfl, hc, hcm, hnil, r⟩ := hb
  unfold maxLen at hcm
  obtain ⟨hcell, hf, hlt⟩ := h.all
  have hq : decide ((many : Int) ≤ (l.length : Int) - (at_ : Int)) = false := by simp; omega
  go_enter Tryz.func123, Tryz.ntmps123
  go_wp2
  go_still_tail 12, (by kernel_rfl)
  go_wp2_with (go_at_call 124; rw [hq]; refine (need_false _).mono ?_; rintro e w' ⟨rfl, rfl⟩)
  refine ⟨rfl, rfl, ?_⟩
  repeat (first | assumption | exact Below.refl _ _ | refine below_dN ?_ _ | refine Below.alloc ?_ (by first | exact Nat.le_refl _ | omega | (simp; fail_if_success (focus skip)) | (simp; omega)) _ | refine Below.setCell ?_ (by first | exact Nat.le_refl _ | omega | (simp; fail_if_success (focus skip)) | (simp; omega)) _ | refine Below.drew ?_ | refine Below.trans ?_ (Below.mono (by assumption) (by first | exact Nat.le_refl _ | omega | (simp; fail_if_success (focus skip)) | (simp; omega))))
set_option maxHeartbeats 400000 in
theorem next_yes (wd hg tl bs : Value) (at_ br many : Nat) (l : List UInt8) (w : World) (h : Blk w br (rdC wd hg tl bs at_) 181) (hb : Bytes w bs l) (ha : at_ ≤ l.length) (hm : 1 ≤ many) (hm5 : many ≤ 5) (hyes : at_ + many ≤ l.length) :
    Calls Tryz.prog 123 #[.pointer (some ⟨br, 0, none⟩), .int .i64 many] w fun e w' => ∃ v, e = .returned v ∧ Bytes w' v ((l.drop at_).take many) ∧ Blk w' br (rdC wd hg tl bs (at_ + many)) 181 ∧ w.grownBy w' (some br) := by
  obtain ⟨a, c, rfl, hc, hcm, hnil, r⟩ := hb
  unfold maxLen at hcm
  obtain ⟨hcell, hf, hlt⟩ := h.all
  obtain ⟨b, o, rfl, _⟩ := r at_ (vb (l[at_]'(by omega))) (by rw [List.getElem?_map, List.getElem?_eq_getElem (by omega)]; rfl)
  have hq : decide ((many : Int) ≤ (l.length : Int) - (at_ : Int)) = true := by simp; omega
  go_enter Tryz.func123, Tryz.ntmps123
  go_wp2
  go_still_tail 12, (by kernel_rfl)
  go_wp2_with (go_at_call 124; rw [hq]; refine (need_true _).mono ?_; rintro e w' ⟨rfl, rfl⟩)
  go_quiet (fail)
  go_wp2
  have e : at_ + many - at_ = many := by omega
  rw [e]
  have hlen : ((l.drop at_).take many).length = many := by simp; omega
  go_ret
  refine ⟨_, rfl, ⟨some ⟨b, o + at_, none⟩, many, by rw [hlen]; rfl, by rw [hlen]; exact Nat.le_refl _, by unfold maxLen; omega, by simp, ?_⟩, ?_, ?_⟩
  · intro j u hu
    have hj : j < many := by
      have := (List.getElem?_eq_some_iff.1 hu).1
      simp at this; omega
    have hu' : (l.map vb)[at_ + j]? = some u := by
      rw [← hu]; simp [List.getElem?_drop, hj]
    obtain ⟨b', o', e1, hc'⟩ := r (at_ + j) u hu'
    cases e1
    refine ⟨b, o + at_, rfl, ?_⟩
    rw [show o + at_ + j = o + (at_ + j) from by omega]
    refine (World.cell?_setCell_other _ _ _ _ ?_).trans hc'
    intro e2
    have h4 := hcell 4
    rw [e2, hc'] at h4
    obtain ⟨x, _, rfl⟩ := List.mem_map.1 (List.mem_of_getElem? hu')
    simp at h4
  · exact Blk.set (Blk.drewN h _) 4 _
  · exact gb_set (gb_drewN _ _ _) _ _
end Go.Proofs.YtkjpcjccddggoaaGreat

namespace Go.Proofs.YtkjpcjccddggoaaGreat
set_option maxRecDepth 20000
open Go.RowKit
/-- a tile's cells -/
def tcells (T : List Col) : Array Value := (T.flatMap fun c => [vb c.r, vb c.g, vb c.b, vb c.a]).toArray
def tileV (T : List Col) : Value := .agg (tcells T)
theorem tcells_size (T : List Col) : (tcells T).size = 4 * T.length := by
  unfold tcells; simp [List.length_flatMap]; induction T with
  | nil => rfl
  | cons c T ih => simp at ih ⊢; omega
theorem tcells_at (T : List Col) (i : Nat) (h : i < T.length) :
    (tcells T)[i * 4]? = some (vb T[i].r) ∧ (tcells T)[i * 4 + 1]? = some (vb T[i].g) ∧ (tcells T)[i * 4 + 2]? = some (vb T[i].b) ∧ (tcells T)[i * 4 + 3]? = some (vb T[i].a) := by
  unfold tcells
  induction T generalizing i with
  | nil => simp at h
  | cons c T ih =>
    cases i with
    | zero => simp
    | succ i =>
      have := ih i (by simpa using h)
      simp only [List.getElem?_toArray, List.flatMap_cons, List.getElem_cons_succ] at this ⊢
      simpa [show (i + 1) * 4 = i * 4 + 4 from by omega, List.getElem?_append_right, Nat.add_right_comm] using this
/-! ### colours that are held against each other -/
theorem run_eqIn_col (d : Nat) (x y : Col) (w : World) : (Op.equalIn (d + 2) 107 (colV x) (colV y)).run Tryz.prog w = .ok (x == y) w := by
  have e : (x == y) = decide (x.r = y.r ∧ x.g = y.g ∧ x.b = y.b ∧ x.a = y.a) := by
    rw [Bool.eq_iff_iff]; cases x; cases y; simp
  rw [e]
  by_cases h1 : x.r = y.r <;> by_cases h2 : x.g = y.g <;> by_cases h3 : x.b = y.b <;> by_cases h4 : x.a = y.a <;>
  simp [colV, go_sem, vb_inj, h1, h2, h3, h4]
theorem op_eql_col (op : BinOp) (hop : op = .eql ∨ op = .neq) (ev : Operand → Value) {x y : Col} {dst : Option Tmp} {p q : Operand} {yt ty : TypeId} {pos : String} {af : Array Edge} {g : Option (Nat × Bool)} (w : World)
    (hp : ev p = colV x) (hq : ev q = colV y) :
    (execOp ev ⟨dst, .binOp op 107 p q yt, ty, pos, af, g⟩).run Tryz.prog w = .ok (.value (.bool (if op = .eql then (x == y) else (x != y)))) w := by
  have hg := run_eqGuard_agg (P := Tryz.prog) w op 107 p q (Col.cells x) (Col.cells y) (by kernel_rfl)
  have h := run_eqIn_col 9998 x y w
  rcases hop with rfl | rfl
  · have h2 := run_eql_struct (P := Tryz.prog) w 107 (Col.cells x) (Col.cells y)
    simp only [execOp, hp, hq, Sem.run_bind, hg, Result.andThen_ok, h2, h]
    rfl
  · have h2 := run_neq_struct (P := Tryz.prog) w 107 (Col.cells x) (Col.cells y)
    simp only [execOp, hp, hq, Sem.run_bind, hg, Result.andThen_ok, h2, h]
    rfl
theorem wl_neq_col {ops : Array Oper} {Q : Exit → Act → World → Prop} {rest : List Oper} {a : Act} {w : World} {dst : Option Tmp} {p q : Operand} {yt ty : TypeId} {pos : String} {af : Array Edge} {g : Option (Nat × Bool)} {x y : Col}
    (hw : Region.wanted ⟨dst, .binOp .neq 107 p q yt, ty, pos, af, g⟩ (yielded ops a.tmps) = true) (hp : a.eval p = colV x) (hq : a.eval q = colV y)
    (h : wpList Tryz.prog ops Q rest (a.put dst (.bool (x != y))) w) : wpList Tryz.prog ops Q (⟨dst, .binOp .neq 107 p q yt, ty, pos, af, g⟩ :: rest) a w :=
  wl_of hw (op_eql_col .neq (.inr rfl) _ w hp hq) h
theorem wq_eql_col {ops : Array Oper} {C : World → Prop} {Q : Act → Prop} {rest : List Oper} {a : Act} {dst : Option Tmp} {p q : Operand} {yt ty : TypeId} {pos : String} {af : Array Edge} {g : Option (Nat × Bool)} {x y : Col}
    (hw : Region.wanted ⟨dst, .binOp .eql 107 p q yt, ty, pos, af, g⟩ (yielded ops a.tmps) = true) (hp : a.eval p = colV x) (hq : a.eval q = colV y)
    (h : wpQuiet Tryz.prog ops C Q rest (a.put dst (.bool (x == y)))) : wpQuiet Tryz.prog ops C Q (⟨dst, .binOp .eql 107 p q yt, ty, pos, af, g⟩ :: rest) a :=
  wq_of hw (fun w _ => op_eql_col .eql (.inl rfl) _ w hp hq) h
/-- how often the colour changes along a row, behind one colour -/
def chg : Col → List Col → Nat
  | _, [] => 0
  | l, c :: cs => (if c != l then 1 else 0) + chg c cs
theorem chg_le (l : Col) (cs : List Col) : chg l cs ≤ cs.length := by
  induction cs generalizing l with
  | nil => simp [chg]
  | cons c cs ih => have := ih c; simp only [chg, List.length_cons]; split <;> omega
/-- how many runs a tile has -/
def runsOf (T : List Col) : Nat := 1 + chg T.head! T
end Go.Proofs.YtkjpcjccddggoaaGreat

namespace Go.Proofs.YtkjpcjccddggoaaGreat
set_option maxRecDepth 20000
open Go.RowKit
theorem tile_hu : Tryz.prog.underlying 109 = some (.array 64 107) := Tryz.underlying109
theorem tile_hi : (Tryz.prog.info? 109).map (·.size) = some 256 := by kernel_rfl
theorem col_hi : (Tryz.prog.info? 107).map (·.size) = some 4 := by kernel_rfl
theorem col_hu : ∃ fs, Tryz.prog.underlying 107 = some (.struct fs) := ⟨_, Tryz.underlying107⟩
/-- the colour of nothing, and a tile of it -/
def noCol : Col := ⟨0, 0, 0, 0⟩
def noTile : List Col := List.replicate 64 noCol
theorem noTile_len : noTile.length = 64 := List.length_replicate
/-- at block b, from offset o on, a tile's cells can be read -/
def TileAt (w : World) (b o : Nat) (T : List Col) : Prop := ∀ j v, (tcells T)[j]? = some v → w.cell? ⟨b, o + j, none⟩ = some v
theorem Blk.tileAt {w : World} {b : Nat} {T : List Col} {t : TypeId} (h : Blk w b (tcells T) t) : TileAt w b 0 T := fun j v hv => by rw [Nat.zero_add, h.cell]; exact hv
theorem TileAt.below {w w' : World} {B b o : Nat} {T : List Col} (h : TileAt w b o T) (hb : Below B w w') (hB : b < B) : TileAt w' b o T := fun j v hv => (hb.cell (p := ⟨b, o + j, none⟩) hB).trans (h j v hv)
theorem tcells_all (T : List Col) : (tcells T).all (·.oneCell') = true := by
  unfold tcells
  simp only [List.all_toArray]
  induction T with
  | nil => rfl
  | cons c T ih => simp [List.flatMap_cons, Value.oneCell']
theorem run_loadVar_tile (w : World) (b o : Nat) (T : List Col) (hT : T.length = 64) (h : TileAt w b o T) : (loadVar 109 ⟨b, o, none⟩).run Tryz.prog w = .ok (tileV T) w := by
  have hl : (loadCells ⟨b, o, none⟩ (tcells T).toList.length).run Tryz.prog w = .ok (tcells T).toList.toArray w :=
    run_loadCells_list (P := Tryz.prog) w ⟨b, o, none⟩ (tcells T).toList (fun j v hv => by
      have hadd : (⟨b, o, none⟩ : Addr).add j = ⟨b, o + j, none⟩ := by unfold Addr.add; split <;> simp_all
      rw [hadd]
      exact h j v (by simpa using hv))
  have hsz : (tcells T).size = 256 := by rw [tcells_size, hT]
  have hq := tile_hi
  cases hq' : Tryz.prog.info? 109 with
  | none => simp [hq'] at hq
  | some i =>
    have hs : i.size = 256 := by simpa [hq'] using hq
    have hagg : (isAgg 109).run Tryz.prog w = .ok true w := by
      unfold isAgg
      rw [Sem.run_bind, run_underlying tile_hu w]
      rfl
    simp only [Array.length_toList, Array.toArray_toList, hsz] at hl
    simp only [loadVar, Sem.run_bind, hagg, Result.andThen_ok, if_true, sizeOf, typeInfo, run_program, hq', Sem.run_pure, hs, hl]
    rfl
section
variable {ops : Array Oper} {Q : Exit → Act → World → Prop} {rest : List Oper} {a : Act} {w : World} {dst : Option Tmp} {p q : Operand} {yt ty : TypeId} {pos : String} {af : Array Edge} {g : Option (Nat × Bool)}
theorem op_load_tile (ev : Operand → Value) {b o : Nat} {T : List Col} (hT : T.length = 64) (hp : ev p = .pointer (some ⟨b, o, none⟩)) (h : TileAt w b o T) :
    (execOp ev ⟨dst, .load 109 p, ty, pos, af, g⟩).run Tryz.prog w = .ok (.value (tileV T)) w := by
  simp only [execOp, hp, Instr.loadAt, Instr.sureAddr, Sem.run_bind, Sem.run_pure, Result.andThen_ok, run_loadVar_tile w b o T hT h]
theorem wl_load_tile {b o : Nat} {T : List Col} (hw : Region.wanted ⟨dst, .load 109 p, ty, pos, af, g⟩ (yielded ops a.tmps) = true) (hp : a.eval p = .pointer (some ⟨b, o, none⟩))
    (hT : T.length = 64) (h : TileAt w b o T) (hk : wpList Tryz.prog ops Q rest (a.put dst (tileV T)) w) : wpList Tryz.prog ops Q (⟨dst, .load 109 p, ty, pos, af, g⟩ :: rest) a w :=
  wl_of hw (op_load_tile _ hT hp h) hk
theorem wq_load_tile {C : World → Prop} {Q : Act → Prop} {b o : Nat} {T : List Col} (hw : Region.wanted ⟨dst, .load 109 p, ty, pos, af, g⟩ (yielded ops a.tmps) = true) (hp : a.eval p = .pointer (some ⟨b, o, none⟩))
    (hT : T.length = 64) (h : ∀ w, C w → TileAt w b o T) (hk : wpQuiet Tryz.prog ops C Q rest (a.put dst (tileV T))) : wpQuiet Tryz.prog ops C Q (⟨dst, .load 109 p, ty, pos, af, g⟩ :: rest) a :=
  wq_of hw (fun w hC => op_load_tile _ hT hp (h w hC)) hk
theorem zeroTile (w : World) : (zeroValue 109).run Tryz.prog w = .ok (tileV noTile) w := by kernel_rfl
/-- a new variable for a tile -/
theorem wl_alloc_tile (hw : Region.wanted ⟨dst, .alloc 109, ty, pos, af, g⟩ (yielded ops a.tmps) = true)
    (hk : wpList Tryz.prog ops Q rest (a.put dst (.pointer (some ⟨w.heap.size, 0, none⟩))) (w.alloc (.cells (tcells noTile) 109))) : wpList Tryz.prog ops Q (⟨dst, .alloc 109, ty, pos, af, g⟩ :: rest) a w := by
  refine wl_of hw ?_ hk
  simp only [execOp, Instr.alloc, Sem.run_bind, zeroTile, Result.andThen_ok]
  rfl
theorem tile_setRow_new (W : World) (c c' : Array Value) (t : TypeId) : (W.alloc (.cells c t)).setRow W.heap.size c' = W.alloc (.cells c' t) := by
  simp only [World.setRow, World.alloc]
  congr 1
  apply Array.ext_getElem?
  intro k
  rw [Array.getElem?_modify, Array.getElem?_push, Array.getElem?_push]
  by_cases h : W.heap.size = k
  · subst h; simp
  · rw [if_neg h, if_neg (fun e => h e.symm), if_neg (fun e => h e.symm)]
theorem op_store_tile (ev : Operand → Value) {n : Nat} {old : Array Value} {t : TypeId} {T : List Col} {W : World} (hT : T.length = 64) (ho : old.size = 256) (hp : ev p = .pointer (some ⟨n, 0, none⟩)) (hq : ev q = tileV T) (hb : Blk W n old t) :
    (execOp ev ⟨dst, .store 109 p q, ty, pos, af, g⟩).run Tryz.prog W = .ok .skip (W.setRow n (tcells T)) := by
  have hsz : (tcells T).size = 256 := by rw [tcells_size, hT]
  have h := run_storeVar_row (P := Tryz.prog) W n t 109 old (tcells T) hb (by rw [hsz]; exact tile_hi) (by rw [hsz, ho]) (tcells_all T)
  simp only [execOp, hp, hq, tileV, Instr.storeAt, Instr.sureAddr, Sem.run_bind, Sem.run_pure, Result.andThen_ok, h]
/-- a tile is stored into a variable that was made just before -/
theorem wl_store_tile_new {n : Nat} {old : Array Value} {t : TypeId} {T : List Col} {W : World} (hw : Region.wanted ⟨dst, .store 109 p q, ty, pos, af, g⟩ (yielded ops a.tmps) = true)
    (hp : a.eval p = .pointer (some ⟨n, 0, none⟩)) (hq : a.eval q = tileV T) (hn : n = W.heap.size) (ho : old.size = 256) (hT : T.length = 64)
    (hk : wpList Tryz.prog ops Q rest (a.put dst undef) (W.alloc (.cells (tcells T) t))) : wpList Tryz.prog ops Q (⟨dst, .store 109 p q, ty, pos, af, g⟩ :: rest) a (W.alloc (.cells old t)) := by
  subst hn
  refine wl_skip hw (op_store_tile _ hT ho hp hq (Blk.new W old t)) ?_
  rw [tile_setRow_new]
  exact hk
/-- a tile is stored into a variable of which the whole block is known -/
theorem wl_store_tile {n : Nat} {old : Array Value} {t : TypeId} {T : List Col} (hw : Region.wanted ⟨dst, .store 109 p q, ty, pos, af, g⟩ (yielded ops a.tmps) = true)
    (hp : a.eval p = .pointer (some ⟨n, 0, none⟩)) (hq : a.eval q = tileV T) (hb : Blk w n old t) (ho : old.size = 256) (hT : T.length = 64)
    (hk : wpList Tryz.prog ops Q rest (a.put dst undef) (w.setRow n (tcells T))) : wpList Tryz.prog ops Q (⟨dst, .store 109 p q, ty, pos, af, g⟩ :: rest) a w :=
  wl_skip hw (op_store_tile _ hT ho hp hq hb) hk
theorem Blk.setRow {b : Nat} {cs cs' : Array Value} {t : TypeId} (h : Blk w b cs t) : Blk (w.setRow b cs') b cs' t := setRow_heap w b cs cs' t _ h
/-! ### == and != on tiles -/
theorem part_col (T : List Col) (i : Nat) (h : i < T.length) (w : World) : (part 107 (tcells T) (i * 4)).run Tryz.prog w = .ok (colV T[i]) w := by
  have hi := col_hi
  obtain ⟨fs, hu⟩ := col_hu
  cases hq' : Tryz.prog.info? 107 with
  | none => simp [hq'] at hi
  | some j =>
    have hs : j.size = 4 := by simpa [hq'] using hi
    have hagg : (isAgg 107).run Tryz.prog w = .ok true w := by
      unfold isAgg
      rw [Sem.run_bind, run_underlying hu w]
      rfl
    obtain ⟨h0, h1, h2, h3⟩ := tcells_at T i h
    have hx : (tcells T).extract (i * 4) (i * 4 + 4) = #[vb T[i].r, vb T[i].g, vb T[i].b, vb T[i].a] := by
      apply Array.ext_getElem?
      intro k
      rw [Array.getElem?_extract]
      have hz := tcells_size T
      rcases k with _ | _ | _ | _ | k
      · simp [h0]; omega
      · simp [h1]; omega
      · simp [h2]; omega
      · simp [h3]; omega
      · simp; omega
    simp only [part, Sem.run_bind, hagg, Result.andThen_ok, if_true, sizeOf, typeInfo, run_program, hq', Sem.run_pure, hs, hx]
theorem cellsOf_col : Tryz.prog.cellsOf 107 = 4 := by kernel_rfl
theorem run_eqItems_tile (d : Nat) (T U : List Col) (w : World) : ∀ (is : List Nat), (∀ i ∈ is, i < T.length ∧ i < U.length) →
    (Op.eqItems (d + 2) 107 4 (tcells T) (tcells U) is).run Tryz.prog w = .ok (decide (∀ i ∈ is, T[i]? = U[i]?)) w
  | [], _ => by simp [Op.eqItems]
  | i :: is, h => by
    obtain ⟨h1, h2⟩ := h i (by simp)
    have ih := run_eqItems_tile d T U w is (fun j hj => h j (by simp [hj]))
    simp only [Op.eqItems, Sem.run_bind, part_col T i h1 w, part_col U i h2 w, Result.andThen_ok, run_eqIn_col d T[i] U[i] w]
    by_cases hc : T[i] = U[i]
    · simp [hc, ih, h1, h2]
    · simp [hc, h1, h2]
theorem run_eqIn_tile (d : Nat) (T U : List Col) (hT : T.length = 64) (hU : U.length = 64) (w : World) : (Op.equalIn (d + 3) 109 (tileV T) (tileV U)).run Tryz.prog w = .ok (T == U) w := by
  have hi := col_hi
  cases hq' : Tryz.prog.info? 107 with
  | none => simp [hq'] at hi
  | some j =>
    unfold tileV
    rw [run_equalIn_array w (d + 2) (tcells T) (tcells U) tile_hu hq', cellsOf_col, run_eqItems_tile d T U w (List.range 64) (by intro i hi; simp at hi; omega)]
    congr 1
    rw [Bool.eq_iff_iff]
    simp only [List.mem_range, decide_eq_true_eq, beq_iff_eq]
    constructor
    · intro h
      apply List.ext_getElem?
      intro i
      by_cases hi : i < 64
      · exact h i hi
      · rw [List.getElem?_eq_none (by omega), List.getElem?_eq_none (by omega)]
    · rintro rfl _ _; rfl
theorem op_eql_tile (op : BinOp) (hop : op = .eql ∨ op = .neq) (ev : Operand → Value) {x y : List Col} (hT : x.length = 64) (hU : y.length = 64) (w : World) (hp : ev p = tileV x) (hq : ev q = tileV y) :
    (execOp ev ⟨dst, .binOp op 109 p q yt, ty, pos, af, g⟩).run Tryz.prog w = .ok (.value (.bool (if op = .eql then (x == y) else (x != y)))) w := by
  have hg := run_eqGuard_agg (P := Tryz.prog) w op 109 p q (tcells x) (tcells y) (by kernel_rfl)
  have h := run_eqIn_tile 9997 x y hT hU w
  unfold tileV at h hp hq
  rcases hop with rfl | rfl
  · have h2 := run_eql_struct (P := Tryz.prog) w 109 (tcells x) (tcells y)
    simp only [execOp, hp, hq, Sem.run_bind, hg, Result.andThen_ok, h2, h]
    rfl
  · have h2 := run_neq_struct (P := Tryz.prog) w 109 (tcells x) (tcells y)
    simp only [execOp, hp, hq, Sem.run_bind, hg, Result.andThen_ok, h2, h]
    rfl
theorem wl_eql_tile {x y : List Col} (hw : Region.wanted ⟨dst, .binOp .eql 109 p q yt, ty, pos, af, g⟩ (yielded ops a.tmps) = true) (hp : a.eval p = tileV x) (hq : a.eval q = tileV y) (hT : x.length = 64) (hU : y.length = 64)
    (h : wpList Tryz.prog ops Q rest (a.put dst (.bool (x == y))) w) : wpList Tryz.prog ops Q (⟨dst, .binOp .eql 109 p q yt, ty, pos, af, g⟩ :: rest) a w :=
  wl_of hw (op_eql_tile .eql (.inl rfl) _ hT hU w hp hq) h
theorem wl_neq_tile {x y : List Col} (hw : Region.wanted ⟨dst, .binOp .neq 109 p q yt, ty, pos, af, g⟩ (yielded ops a.tmps) = true) (hp : a.eval p = tileV x) (hq : a.eval q = tileV y) (hT : x.length = 64) (hU : y.length = 64)
    (h : wpList Tryz.prog ops Q rest (a.put dst (.bool (x != y))) w) : wpList Tryz.prog ops Q (⟨dst, .binOp .neq 109 p q yt, ty, pos, af, g⟩ :: rest) a w :=
  wl_of hw (op_eql_tile .neq (.inr rfl) _ hT hU w hp hq) h
end
end Go.Proofs.YtkjpcjccddggoaaGreat
