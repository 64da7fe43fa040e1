/- Walks by data and names, part 1: General small lemmas of this place's proofs: bytes and colours as values, blocks, slices that read as rows. Small laws of walks inside a fence (ranges over functions): a scope that is entered straight; a block that lies as it lay. Slices as rows of cells; append in one law. -/
import Derived.Test.YtjfaihpiohccbaaChecked
import Derived.WalkKit
import Derived.Lib.Hide
import Derived.BigQuiet
import Derived.Deep.QuietTactic
import Derived.Deep.RegionWith
import Derived.Deep.DeepCutAuto
import Derived.Deep.LoopGhost
import Derived.Outline
import Derived.RangeFuncNested
import Derived.RangeFuncBound
import Derived.RangeFuncCalls
import Derived.RangeFuncLeaves
import Derived.RangeFuncBox
import Derived.Shelf.Abstract
import Derived.Shelf.RegionOpen
import Derived.OwnWalkIn
import Derived.TacticsInMore
import Derived.LoopNIn
import Derived.LoopIn
import Derived.WalkMore
import Derived.Maps.AppendAt
import Derived.WalkSpells
import Derived.Deep.MidRow
import Derived.ChangeKeysEq
import Derived.RangeFuncRecord
import Derived.IntWalk
import Derived.Laws.Small
import Derived.Great.BuildSlice
namespace Go.Proofs.Ytjfaihpiohccbaa
open Go.RowKit

/-- a byte as a value -/
abbrev vb (x : UInt8) : Value := .int .u8 x.toNat

structure Col where
  r : UInt8
  g : UInt8
  b : UInt8
  a : UInt8
deriving DecidableEq, Repr, Inhabited

abbrev Col.cells (c : Col) : Array Value := #[vb c.r, vb c.g, vb c.b, vb c.a]
abbrev colV (c : Col) : Value := .agg #[vb c.r, vb c.g, vb c.b, vb c.a]

/-- what reads stays below: every old cell reads as before -/
theorem bcell {W w1 : World} {B : Nat} (hb : Below B W w1) : (∀ b o, b < B → w1.cell? ⟨b, o, none⟩ = W.cell? ⟨b, o, none⟩) ∧ (∀ b o, b < B → w1.frozen? ⟨b, o, none⟩ = W.frozen? ⟨b, o, none⟩) :=
  ⟨fun b o h => hb.cell (p := ⟨b, o, none⟩) h, fun b o h => hb.frozen (p := ⟨b, o, none⟩) h⟩

/-- block b of w is just these cells, none of them frozen -/
def Blk (w : World) (b : Nat) (cs : Array Value) (t : TypeId) : Prop := w.heap[b]? = some (.cells cs t (0, 0))

theorem Blk.cell {w : World} {b : Nat} {cs : Array Value} {t : TypeId} (h : Blk w b cs t) (j : Nat) : w.cell? ⟨b, j, none⟩ = cs[j]? := cell_of_row w b j cs t (0, 0) h
theorem Blk.frozen {w : World} {b : Nat} {cs : Array Value} {t : TypeId} (h : Blk w b cs t) (j : Nat) : w.frozen? ⟨b, j, none⟩ = false := frozen_of_row w b j cs t h
theorem Blk.lt {w : World} {b : Nat} {cs : Array Value} {t : TypeId} (h : Blk w b cs t) : b < w.heap.size := (Array.getElem?_eq_some_iff.1 h).1
theorem Blk.all {w : World} {b : Nat} {cs : Array Value} {t : TypeId} (h : Blk w b cs t) : (∀ j, w.cell? ⟨b, j, none⟩ = cs[j]?) ∧ (∀ j, w.frozen? ⟨b, j, none⟩ = false) ∧ b < w.heap.size := ⟨h.cell, h.frozen, h.lt⟩
theorem Blk.new (w : World) (cs : Array Value) (t : TypeId) : Blk (w.alloc (.cells cs t)) w.heap.size cs t := heap_alloc_new w _
theorem Blk.alloc {w : World} {b : Nat} {cs : Array Value} {t : TypeId} (h : Blk w b cs t) (o : Obj) : Blk (w.alloc o) b cs t := (Below.heap_alloc w o b h.lt).trans h
theorem Blk.below {w w' : World} {B b : Nat} {cs : Array Value} {t : TypeId} (h : Blk w b cs t) (hb : Below B w w') (hB : b < B) : Blk w' b cs t := (hb.block b hB).trans h
theorem Blk.drew {w : World} {b : Nat} {cs : Array Value} {t : TypeId} (h : Blk w b cs t) : Blk w.drew b cs t := h
theorem Blk.set {w : World} {b : Nat} {cs : Array Value} {t : TypeId} (h : Blk w b cs t) (i : Nat) (v : Value) : Blk (w.setCell ⟨b, i, none⟩ v) b (cs.setIfInBounds i v) t := heap_setCell_same w b i cs t v h
theorem Blk.other {w : World} {b : Nat} {cs : Array Value} {t : TypeId} (h : Blk w b cs t) (a : Addr) (v : Value) (hne : b ≠ a.block) : Blk (w.setCell a v) b cs t := (heap_setCell_other w a b v hne).trans h
theorem Blk.grown {w w' : World} {b : Nat} {cs : Array Value} {t : TypeId} {row : Option Nat} (h : Blk w b cs t) (hg : w.grownBy w' row) (hne : some b ≠ row) : Blk w' b cs t := (hg.block b h.lt hne).trans h

/-- the master law of one operation that yields a value -/
theorem wl_of {P : Program} {ops : Array Oper} {Q : Exit → Act → World → Prop} {rest : List Oper} {a : Act} {w : World} {o : Oper} {v : Value} {w' : World}
    (hw : Region.wanted o (yielded ops a.tmps) = true) (hrun : (execOp a.eval o).run P w = .ok (.value v) w') (h : wpList P ops Q rest (a.put o.dst v) w') : wpList P ops Q (o :: rest) a w := by
  refine wpList_step fun K hK => ?_
  rw [if_pos hw]
  unfold Oper.wp
  rw [hrun]
  exact hK _ _ h

/-- the same in a region that draws its order, of operations that all yield one value in every world of a class -/
theorem wq_of {P : Program} {ops : Array Oper} {C : World → Prop} {Q : Act → Prop} {rest : List Oper} {a : Act} {o : Oper} {v : Value}
    (hw : Region.wanted o (yielded ops a.tmps) = true) (hrun : ∀ w, C w → (execOp a.eval o).run P w = .ok (.value v) w) (h : wpQuiet P ops C Q rest (a.put o.dst v)) : wpQuiet P ops C Q (o :: rest) a := by
  refine wpQuiet_step fun K hK => ?_
  rw [if_pos hw]
  exact ⟨v, fun w hC => by unfold Oper.quietAt; rw [hrun w hC]; exact ⟨rfl, rfl⟩, hK _ h⟩

/-- a region that draws its order, at the class of all worlds in which nothing old has turned -/
theorem wp_region_below {P : Program} {id : Nat} {Q : Exit → Act → World → Prop} {a : Act} {w : World} {l : List Oper} (hm : P.follows .mixedOrders = true) (hB : Region.lexB .any l.toArray = true)
    (h : wpQuiet P l.toArray (fun w' => Below w.heap.size w w') (fun a' => ∀ w', Below w.heap.size w w' → Q .normal a' w') l a) : (Code.region id l.toArray true).wp P Q a w :=
  wp_region_quiet (C := fun w' => Below w.heap.size w w') hm hB ((Below.refl _ w).drew) (by simpa using h)

/-- the master law of one operation that yields none -/
theorem wl_skip {P : Program} {ops : Array Oper} {Q : Exit → Act → World → Prop} {rest : List Oper} {a : Act} {w : World} {o : Oper} {w' : World}
    (hw : Region.wanted o (yielded ops a.tmps) = true) (hrun : (execOp a.eval o).run P w = .ok .skip w') (h : wpList P ops Q rest (a.put o.dst undef) w') : wpList P ops Q (o :: rest) a w := by
  refine wpList_step fun K hK => ?_
  rw [if_pos hw]
  unfold Oper.wp
  rw [hrun]
  exact hK _ _ h

theorem vb_inj (x y : UInt8) : ((x.toNat : Int) = (y.toNat : Int)) ↔ x = y := by
  constructor
  · intro h; exact UInt8.toNat_inj.1 (by omega)
  · rintro rfl; rfl

theorem ret_int {k : IntKind} {a b : Int} (h : a = b) : Ending.returned (.int k a) = .returned (.int k b) := by rw [h]
theorem int_eq {k : IntKind} {a b : Int} (h : a = b) : Value.int k a = .int k b := by rw [h]

/-! ### what a call may have written: one row of the old heap -/
theorem gb_refl (w : World) (row : Option Nat) : w.grownBy w row := ⟨rfl, rfl, rfl, Nat.le_refl _, fun _ _ _ => rfl⟩
theorem gb_trans {w w1 w2 : World} {row : Option Nat} (h : w.grownBy w1 row) (k : w1.grownBy w2 row) : w.grownBy w2 row :=
  ⟨k.os.trans h.os, k.tape.trans h.tape, k.output.trans h.output, Nat.le_trans h.size k.size, fun i hi hn => (k.block i (Nat.lt_of_lt_of_le hi h.size) hn).trans (h.block i hi hn)⟩
theorem gb_set {w w1 : World} {b : Nat} (h : w.grownBy w1 (some b)) (i : Nat) (v : Value) : w.grownBy (w1.setCell ⟨b, i, none⟩ v) (some b) :=
  gb_trans h ⟨rfl, rfl, rfl, by simp, fun k _ hk => heap_setCell_other w1 ⟨b, i, none⟩ k v (fun e => hk (by simp [e]))⟩
theorem gb_alloc {w w1 : World} {row : Option Nat} (h : w.grownBy w1 row) (o : Obj) : w.grownBy (w1.alloc o) row := gb_trans h (World.grownBy_alloc w1 o row)
theorem gb_below {w w1 w2 : World} {row : Option Nat} {B : Nat} (h : w.grownBy w1 row) (hb : Below B w1 w2) (hB : w1.heap.size ≤ B) : w.grownBy w2 row :=
  gb_trans h ⟨hb.os, hb.tape, hb.output, hb.size, fun _ _ _ => hb.block _ (by omega)⟩
theorem gb_drewN (w : World) (n : Nat) (row : Option Nat) : w.grownBy (w.drewN n) row := ⟨rfl, rfl, rfl, Nat.le_refl _, fun _ _ _ => rfl⟩
theorem below_drewN (B : Nat) (w : World) (n : Nat) : Below B w (w.drewN n) := ⟨rfl, rfl, rfl, Nat.le_refl _, fun _ _ => rfl⟩
theorem below_dN {B : Nat} {a w : World} (h : Below B a w) (n : Nat) : Below B a (w.drewN n) := h.trans (below_drewN _ _ _)
/-- a row that is new is none of the old heap's -/
theorem gb_new {w w1 : World} {b : Nat} (h : w.grownBy w1 (some b)) (hb : w.heap.size ≤ b) : Below w.heap.size w w1 :=
  ⟨h.os, h.tape, h.output, h.size, fun k hk => h.block k hk (fun e => by cases e; omega)⟩

end Go.Proofs.Ytjfaihpiohccbaa

namespace Go.Proofs.Ytjfaihpiohccbaa
open Go.RowKit Go.Shelf

theorem stepR_scope {P : Program} {b : Frame} {a : Act} {k : List Item} {cs : List Frame} {w : World} {c : Code} :
    step P (lone (b.atR a (.code (.scope c) :: k)) cs w) = .next (lone (b.atR a (.code c :: .inScope c :: k)) cs w) :=
  step_lone_go (by simp [stepG, stepG.exec, Frame.atR])
theorem stepR_inScope {P : Program} {b : Frame} {a : Act} {k : List Item} {cs : List Frame} {w : World} {c : Code} :
    step P (lone (b.atR a (.inScope c :: k)) cs w) = .next (lone (b.atR a k) cs w) :=
  step_lone_go (by simp [stepG, stepG.exec, Frame.atR])

theorem wpIn_scope_straight {F : Fence} {n : Nat} {P : Program} {Q : Exit → Act → World → Prop} {a : Act} {w : World} {c : Code} (h : c.wpIn F n P (Exit.noGoto Q) a w) : (Code.scope c).wpIn F n P Q a w := by
  intro b k cs hro hb hr
  have h0 : (lone (b.atR a (.code (.scope c) :: k)) cs w).fenced P F := fenced_calm hb hr rfl
  obtain ⟨e, a₁, w₁, hq, harr⟩ := h b (.inScope c :: k) cs hro hb hr
  cases e with
  | normal => exact ⟨.normal, a₁, w₁, hq, .head h0 stepR_scope (StepsIn.trans harr (.one (fenced_calm hb hr rfl) stepR_inScope))⟩
  | exit id =>
    have hx : exitTo id (.inScope c :: k) = exitTo id k := by simp [exitTo]
    exact ⟨.exit id, a₁, w₁, hq, fun k' hk => .head h0 stepR_scope (harr.1 k' (by rw [hx]; exact hk)),
      fun hr' hk => let ⟨k₁, h1, h2⟩ := harr.2 hr' (by rw [hx]; exact hk); ⟨k₁, h1, .head h0 stepR_scope h2⟩⟩
  | goto l => exact hq.elim
  | ret => exact ⟨_, a₁, w₁, hq, .of_steps (.one h0 stepR_scope) harr⟩
  | panic ch => exact ⟨_, a₁, w₁, hq, .of_steps (.one h0 stepR_scope) harr⟩
  | outgrown => exact ⟨_, a₁, w₁, hq, .of_steps (.one h0 stepR_scope) harr⟩

/-- block b lies as it lay -/
def KeepB (b : Nat) (W W' : World) : Prop := W'.heap[b]? = W.heap[b]?
theorem keepB_t {b : Nat} {X Y Z : World} (h : KeepB b X Y) (k : KeepB b Y Z) : KeepB b X Z := Eq.trans k h
theorem keepB_b {b B : Nat} (hb : b < B) (W : World) (l : Nat) (o o' : Obj) (hl : B ≤ l) (_ : W.heap[l]? = some o) (_ : o.isCells = false) (_ : o.isWalk = false) : KeepB b W (W.putObj l o') :=
  World.putObj_heap_other (fun e => by omega)
theorem Blk.keepB {W W' : World} {b : Nat} {cs : Array Value} {t : TypeId} (h : Blk W b cs t) (k : KeepB b W W') : Blk W' b cs t := Eq.trans k h
theorem keepB_gb {W W' : World} {b : Nat} {row : Option Nat} (hb : b < W.heap.size) (hg : W.grownBy W' row) (hne : some b ≠ row) : KeepB b W W' := hg.block b hb hne
theorem keepB_below {W W' : World} {b B : Nat} (hb : b < B) (h : Below B W W') : KeepB b W W' := h.block b hb

theorem ownsRow_base {w : World} {base base' : Nat} {e : TypeId} {size : Nat} {v : Value} {n : Nat} {xs : List Value} (h : w.ownsRow base e size v n xs) (hle : base' ≤ base) : w.ownsRow base' e size v n xs := by
  refine ⟨h.1, ?_⟩
  rcases h.2 with h2 | ⟨g, cap, cur, hv, hg, r⟩
  · exact .inl h2
  · exact .inr ⟨g, cap, cur, hv, Nat.le_trans hle hg, r⟩

/-- 'out = append(out, ..)', out in a box B: what the walk owes behind the append law's two words; every block below n₀ but B lies as it lay -/
theorem boxed_appended {W w1 : World} {n₀ B : Nat} {t e : TypeId} {size : Nat} {v v' : Value} {k m : Nat} {xs ys : List Value} {tmp : Obj}
    (hv : Boxed W B t v) (hte : t ≠ e) (hrow : W.ownsRow n₀ e size v k xs) (hown' : w1.ownsRow n₀ e size v' m ys) (hgrow : (W.alloc tmp).grownBy w1 v.ownBlock) :
    Boxed w1 B t v ∧ Boxed (w1.setCell ⟨B, 0, none⟩ v') B t v' ∧ (w1.setCell ⟨B, 0, none⟩ v').ownsRow n₀ e size v' m ys ∧ KeepsOthers W (w1.setCell ⟨B, 0, none⟩ v') ∧
      (∀ c, c < W.heap.size → c < n₀ → c ≠ B → (w1.setCell ⟨B, 0, none⟩ v').heap[c]? = W.heap[c]?) := by
  have hv1 : Boxed w1 B t v := (hv.alloc tmp).kept hgrow (hv.not_row hte hrow)
  refine ⟨hv1, hv1.set v', hown'.kept (grownBy_setCell' w1 B v') (.inr (hv1.not_row hte hown').symm), ?_, ?_⟩
  · refine ((KeepsOthers.alloc W tmp).trans (KeepsOthers.of_grownBy hgrow fun j o ej hj => ?_)).trans (KeepsOthers.setCell _ _ _)
    rcases (hrow.alloc tmp).2 with ⟨rfl, _⟩ | ⟨g, cap, cur, rfl, _, hgb, _⟩
    · simp [Value.ownBlock] at ej
    · obtain rfl : g = j := by simpa [Value.ownBlock] using ej
      rw [hgb] at hj; cases hj; rfl
  · intro c h1 h2 h3
    rw [Below.heap_setCell _ _ _ _ h3, hgrow.block c (by simp; omega) ?_, Below.heap_alloc _ _ _ h1]
    intro ej
    rcases hrow.2 with ⟨rfl, _⟩ | ⟨g, cap, cur, rfl, hb, _, _⟩
    · simp [Value.ownBlock] at ej
    · obtain rfl : g = c := by simpa [Value.ownBlock] using ej.symm
      omega

theorem ownFrom_size {β : Type} (B n : Nat) : OwnFrom B (fun (_ : β) W => n ≤ W.heap.size) := fun _ _ _ _ hs hg _ => Nat.le_trans hs hg.size

theorem cells_new (w : World) (cs : Array Value) (t : TypeId) : ∀ j u, cs.toList[j]? = some u → (w.alloc (.cells cs t)).cell? ((⟨w.heap.size, 0, none⟩ : Addr).add j) = some u := by
  intro j u h
  have hadd : (⟨w.heap.size, 0, none⟩ : Addr).add j = ⟨w.heap.size, j, none⟩ := by unfold Addr.add; split <;> simp_all
  rw [hadd, World.cell?_alloc_new]
  simpa using h

theorem below_of {B : Nat} {w w' : World} (h : w.os = w'.os ∧ w.tape = w'.tape ∧ w.output = w'.output ∧ w.heap.size ≤ w'.heap.size) (hb : ∀ k, k < B → w'.heap[k]? = w.heap[k]?) : Below B w w' :=
  ⟨h.1.symm, h.2.1.symm, h.2.2.1.symm, h.2.2.2, hb⟩

end Go.Proofs.Ytjfaihpiohccbaa

namespace Go.Proofs.Ytjfaihpiohccbaa
open Go.RowKit

/-- from address a on, cells can be read -/
def Reads (w : World) (a : Option Addr) (cs : List Value) : Prop := ∀ j u, cs[j]? = some u → ∃ b o, a = some ⟨b, o, none⟩ ∧ w.cell? ⟨b, o + j, none⟩ = some u

/-- a slice value of n elements that reads as these cells -/
def IsSl (w : World) (v : Value) (n : Nat) (cs : List Value) : Prop := ∃ a c, v = .slice a n c ∧ n ≤ c ∧ c ≤ maxLen ∧ (a = none → c = 0) ∧ Reads w a cs

theorem Reads.below {w w' : World} {a : Option Addr} {cs : List Value} (h : Reads w a cs) (hb : Below w.heap.size w w') : Reads w' a cs := fun j u hu => by
  obtain ⟨b, o, rfl, hc⟩ := h j u hu
  exact ⟨b, o, rfl, (hb.cell (p := ⟨b, o + j, none⟩) (World.block_lt_of_cell? w _ hc)).trans hc⟩
theorem IsSl.below {w w' : World} {v : Value} {n : Nat} {cs : List Value} (h : IsSl w v n cs) (hb : Below w.heap.size w w') : IsSl w' v n cs := by
  obtain ⟨a, c, h1, h2, h3, h4, h5⟩ := h
  exact ⟨a, c, h1, h2, h3, h4, h5.below hb⟩
theorem Reads.take {w : World} {a : Option Addr} {cs : List Value} (h : Reads w a cs) (k : Nat) : Reads w a (cs.take k) := fun j u hu => by
  rw [List.getElem?_take] at hu; split at hu
  · exact h j u hu
  · cases hu
theorem Reads.nil (w : World) (a : Option Addr) : Reads w a [] := fun j u hu => by simp at hu
theorem IsSl.nil (w : World) : IsSl w (.slice none 0 0) 0 [] := ⟨none, 0, rfl, Nat.le_refl _, by unfold maxLen; omega, fun _ => rfl, Reads.nil _ _⟩

/-- cells, written out -/
def CellsL (w : World) (b : Nat) : Nat → List Value → Prop
  | _, [] => True
  | o, x :: xs => w.cell? ⟨b, o, none⟩ = some x ∧ CellsL w b (o + 1) xs
theorem CellsL.get {w : World} {b : Nat} : ∀ {o : Nat} {xs : List Value}, CellsL w b o xs → ∀ j u, xs[j]? = some u → w.cell? ⟨b, o + j, none⟩ = some u
  | _, [], _, j, u, h => by simp at h
  | o, x :: xs, ⟨h0, h⟩, 0, u, hu => by simp at hu; subst hu; exact h0
  | o, x :: xs, ⟨_, h⟩, j + 1, u, hu => by
    have := CellsL.get h j u (by simpa using hu)
    rw [show o + (j + 1) = o + 1 + j from by omega]
    exact this
/-- a slice over cells that are written out -/
theorem IsSl.lit {w : World} {b n c : Nat} {xs : List Value} (h : CellsL w b 0 xs) (hn : n ≤ c) (hc : c ≤ maxLen) : IsSl w (.slice (some ⟨b, 0, none⟩) n c) n xs :=
  ⟨_, c, rfl, hn, hc, by simp, fun j u hu => ⟨b, 0, rfl, h.get j u hu⟩⟩

/-- a slice over a block that was made just before -/
theorem IsSl.new {W : World} {n k : Nat} {cs : Array Value} {t : TypeId} (hn : n = W.heap.size) (hk : k ≤ maxLen) : IsSl (W.alloc (.cells cs t)) (.slice (some ⟨n, 0, none⟩) k k) k cs.toList := by
  subst hn
  refine ⟨_, k, rfl, Nat.le_refl _, hk, by simp, fun j u hu => ⟨_, 0, rfl, ?_⟩⟩
  rw [Nat.zero_add, World.cell?_alloc_new]
  simpa using hu

/-- what a call owns can be read -/
theorem IsSl.of_own {w : World} {base : Nat} {e : TypeId} {size : Nat} {v : Value} {n : Nat} {xs : List Value} (h : w.ownsRow base e size v n xs) : IsSl w v n xs := by
  rcases h.2 with ⟨rfl, rfl⟩ | ⟨g, cap, cur, rfl, _, hg, hnc, hcm, hcs, htake⟩
  · have : xs = [] := List.eq_nil_of_length_eq_zero (by simpa using h.1)
    subst this
    exact IsSl.nil w
  · refine ⟨_, cap, rfl, hnc, hcm, by simp, fun j u hu => ⟨g, 0, rfl, ?_⟩⟩
    rw [Nat.zero_add, cell_of_row w g j cur e (0, 0) hg]
    rw [← htake, List.getElem?_take] at hu
    split at hu
    · simpa using hu
    · cases hu

theorem ownsRow_len {w : World} {base : Nat} {e : TypeId} {size : Nat} {v : Value} {n : Nat} {xs : List Value} (h : w.ownsRow base e size v n xs) : xs.length = n * size := h.1
theorem ownsRow_slice {w : World} {base : Nat} {e : TypeId} {size : Nat} {v : Value} {n : Nat} {xs : List Value} (h : w.ownsRow base e size v n xs) : ∃ a c, v = .slice a n c ∧ n ≤ c ∧ c ≤ maxLen := by
  rcases h.2 with ⟨rfl, rfl⟩ | ⟨g, cap, cur, rfl, _, hg, hnc, hcm, _⟩
  · exact ⟨none, 0, rfl, Nat.le_refl _, Nat.zero_le _⟩
  · exact ⟨_, cap, rfl, hnc, hcm⟩
theorem ownsRow_below {w w' : World} {base : Nat} {e : TypeId} {size : Nat} {v : Value} {n : Nat} {xs : List Value} {B : Nat} (h : w.ownsRow base e size v n xs) (hb : Below B w w') (hB : w.heap.size ≤ B) : w'.ownsRow base e size v n xs :=
  h.kept (row := none) ⟨hb.os, hb.tape, hb.output, hb.size, fun k hk _ => hb.block k (by omega)⟩ (by cases v.ownBlock <;> simp)

/-- an element type's row of the table -/
structure Elem (P : Program) (t e : TypeId) (size bytes : Nat) : Prop where
  und : P.underlying t = some (.slice e)
  info : ∃ i z, P.info? e = some i ∧ i.zero = some z ∧ i.size = size ∧ i.bytes = bytes ∧ z.cells.size = size
  pos : 0 < size

theorem Elem.mk' {P : Program} {t e : TypeId} {size bytes : Nat} {z : Value} (h : P.underlying t = some (.slice e)) (hi : (P.info? e).map (fun i => (i.zero, i.size, i.bytes)) = some (some z, size, bytes)) (hz : z.cells.size = size) (hp : 0 < size) : Elem P t e size bytes := by
  obtain ⟨i, a, b, c, d⟩ := info_parts hi
  exact ⟨h, ⟨i, z, a, b, c, d, hz⟩, hp⟩

/-- append in one law: onto a row of the call's own (nil too), whatever readable slice is behind it (nil too) -/
theorem wl_append {P : Program} {ops : Array Oper} {Q : Exit → Act → World → Prop} {rest : List Oper} {a : Act} {w : World} {dst : Option Tmp} {s x : Operand} {t ty : TypeId} {pos : String} {af : Array Edge} {g : Option (Nat × Bool)}
    {e : TypeId} {size bytes : Nat} (base : Nat) (hE : Elem P t e size bytes) {v : Value} {n : Nat} {xs : List Value} {vx : Value} {m : Nat} {news : List Value}
    (hw : Region.wanted ⟨dst, .call { callee := .builtin .append, args := #[s, x], argTypes := #[t, t] }, ty, pos, af, g⟩ (yielded ops a.tmps) = true)
    (hs : a.eval s = v) (hx : a.eval x = vx) (hown : w.ownsRow base e size v n xs) (hsl : IsSl w vx m news) (hl : news.length = m * size) (h1 : ∀ u ∈ news, u.oneCell' = true)
    (h63 : n + m ≤ maxLen) (hbytes : (n + m) * bytes ≤ 140737488355328) (hbase : base ≤ w.heap.size)
    (h : ∀ v' w', w'.ownsRow base e size v' (n + m) (xs ++ news) → w.grownBy w' v.ownBlock → wpList P ops Q rest (a.put dst v') w') :
    wpList P ops Q (⟨dst, .call { callee := .builtin .append, args := #[s, x], argTypes := #[t, t] }, ty, pos, af, g⟩ :: rest) a w := by
  obtain ⟨ht, ⟨i, z, hi, hz, hsz, hby, hzs⟩, hp⟩ := hE
  obtain ⟨ad, c, rfl, hmc, hcm, hnil, hr⟩ := hsl
  cases ad with
  | none =>
    obtain rfl : c = 0 := hnil rfl
    obtain rfl : m = 0 := by omega
    obtain rfl : news = [] := List.eq_nil_of_length_eq_zero (by simpa using hl)
    have hrun := run_append_owned_none (P := P) (w := w) base t ty e i size ht hi v n xs hown
    refine wl_of hw ?_ (h v w (by simpa using hown) (gb_refl _ _))
    simp [execOp, resolve, invoke, builtin, hs, hx, hrun, Result.andThen]
  | some ad =>
    by_cases hm : m = 0
    · subst hm
      obtain rfl : news = [] := List.eq_nil_of_length_eq_zero (by simpa using hl)
      obtain ⟨v', w', hrun, h2, h3, h4⟩ := run_append_own (P := P) w base t ty e i z size bytes ht hi hz hsz hby hzs hp v n xs hown ad 0 c [] hl (by simp) h1 h63 hbytes hbase
      refine wl_of hw ?_ (h v' w' h2 h3)
      simp only [execOp, resolve, invoke, builtin, Sem.run_bind, Sem.run_pure, Result.andThen_ok, List.map_toArray, List.map_cons, List.map_nil, hs, hx, hrun]
    · have hpos : 0 < news.length := by rw [hl]; exact Nat.mul_pos (by omega) hp
      obtain ⟨b, o, e1, _⟩ := hr 0 news[0] (by simp [hpos])
      cases e1
      have hnews : ∀ j u, news[j]? = some u → w.cell? ((⟨b, o, none⟩ : Addr).add j) = some u := fun j u hu => by
        obtain ⟨b', o', e2, hc⟩ := hr j u hu
        cases e2
        have hadd : (⟨b, o, none⟩ : Addr).add j = ⟨b, o + j, none⟩ := by unfold Addr.add; split <;> simp_all
        rw [hadd]; exact hc
      obtain ⟨v', w', hrun, h2, h3, h4⟩ := run_append_own (P := P) w base t ty e i z size bytes ht hi hz hsz hby hzs hp v n xs hown ⟨b, o, none⟩ m c news hl hnews h1 h63 hbytes hbase
      refine wl_of hw ?_ (h v' w' h2 h3)
      simp only [execOp, resolve, invoke, builtin, Sem.run_bind, Sem.run_pure, Result.andThen_ok, List.map_toArray, List.map_cons, List.map_nil, hs, hx, hrun]

/-- what an append to a row of the call's own leaves of the old heap -/
theorem below_append {w0 w w' : World} {base : Nat} {e : TypeId} {size : Nat} {v : Value} {n : Nat} {xs : List Value} {B : Nat} (hb : Below B w0 w) (hB : B ≤ base) (hB2 : B ≤ w.heap.size) (hown : w.ownsRow base e size v n xs) (hg : w.grownBy w' v.ownBlock) : Below B w0 w' :=
  hb.grown hg hB2 (fun k hk => Nat.le_trans hB (hown.lt k hk).1)

theorem own_ne {w : World} {base : Nat} {e : TypeId} {size : Nat} {v : Value} {n : Nat} {xs : List Value} (h : w.ownsRow base e size v n xs) {b : Nat} (hb : b < base) : some b ≠ v.ownBlock := fun e' => by
  have := (h.lt b e'.symm).1
  omega
/-- behind an append: an old block that is not the row's own lies as it lay -/
theorem Blk.append {w w1 : World} {base b : Nat} {e t : TypeId} {size : Nat} {v : Value} {n : Nat} {xs : List Value} {cs : Array Value} (h : Blk w b cs t) (hr : w.ownsRow base e size v n xs) (hg : w.grownBy w1 v.ownBlock) (hb : b < base) : Blk w1 b cs t := h.grown hg (own_ne hr hb)
theorem Blk.drewN {w : World} {b : Nat} {cs : Array Value} {t : TypeId} (h : Blk w b cs t) (n : Nat) : Blk (w.drewN n) b cs t := h

/-! ### bytes -/
theorem elem_byte : Elem Try.prog 22 5 1 1 := Elem.mk' (z := .int .u8 0) Try.underlying22 (by kernel_rfl) rfl (by decide)

def Bytes (w : World) (v : Value) (l : List UInt8) : Prop := IsSl w v l.length (l.map vb)
/-- bytes in a row of the call's own -/
def OwnB (base : Nat) (w : World) (v : Value) (l : List UInt8) : Prop := w.ownsRow base 5 1 v l.length (l.map vb)
theorem OwnB.bytes {base : Nat} {w : World} {v : Value} {l : List UInt8} (h : OwnB base w v l) : Bytes w v l := IsSl.of_own h
theorem Bytes.below {w w' : World} {v : Value} {l : List UInt8} (h : Bytes w v l) (hb : Below w.heap.size w w') : Bytes w' v l := IsSl.below h hb
theorem one_bytes (l : List UInt8) : ∀ u ∈ l.map vb, u.oneCell' = true := by
  intro u hu
  obtain ⟨x, _, rfl⟩ := List.mem_map.1 hu
  rfl

set_option maxHeartbeats 400000 in
theorem equal_bytes (v1 v2 : Value) (l1 l2 : List UInt8) (w : World) (h1 : Bytes w v1 l1) (h2 : Bytes w v2 l2) :
    Calls Try.prog 32 #[v1, v2] w fun e w' => e = .returned (.bool (decide (l1 = l2))) ∧ Below w.heap.size w w' := by
  obtain ⟨a1, c1, rfl, hc1, hm1, _, r1⟩ := h1
  obtain ⟨a2, c2, rfl, hc2, hm2, _, r2⟩ := h2
  unfold maxLen at hm1 hm2
  by_cases hlen : l1.length = l2.length
  · have HL := Lib.hid hlen
    have hb : ((l1.length : Int) != (l2.length : Int)) = false := by simp; omega
    clear hlen
    go_enter Try.func32, Try.ntmps32
    go_wp2
    go_loopw [13] (fun i wr => ∃ k : Nat, k ≤ l1.length ∧ i = .int .i64 k ∧ l1.take k = l2.take k ∧ Below w.heap.size w wr) (fun i _ => l1.length - (intOf i).toNat)
    case atStart => exact ⟨0, by omega, rfl, by simp, Below.refl _ _⟩
    case round =>
      obtain ⟨k, hk, rfl, heq, hB⟩ := hrel
      by_cases hlt : k < l1.length
      · have hlt2 : k < l2.length := by have := HL.out; omega
        obtain ⟨b1, o1, rfl, e1⟩ := r1 k (vb l1[k]) (by simp [hlt])
        obtain ⟨b2, o2, rfl, e2⟩ := r2 k (vb l2[k]) (by simp [hlt2])
        have e1' := (hB.cell (p := ⟨b1, o1 + k, none⟩) (World.block_lt_of_cell? w _ e1)).trans e1
        have e2' := (hB.cell (p := ⟨b2, o2 + k, none⟩) (World.block_lt_of_cell? w _ e2)).trans e2
        have HE := Lib.hid heq
        clear e1 e2 heq r1 r2
        by_cases hx : l1[k] = l2[k]
        · have hxb : (((l1[k].toNat : Int)) != (l2[k].toNat : Int)) = false := by rw [hx]; simp
          have HX := Lib.hid hx
          clear hx
          go_wp2
          go_quiet (fail)
          go_wp2
          go_roundw
          case rel => exact ⟨k + 1, by omega, by go_num, by rw [List.take_succ_eq_append_getElem hlt, List.take_succ_eq_append_getElem hlt2, HE.out, HX.out], hB.trans (below_drewN _ _ _)⟩
          case measure => simp only [intOf]; omega
        · have hxb : (((l1[k].toNat : Int)) != (l2[k].toNat : Int)) = true := by simp [vb_inj, hx]
          go_wp2
          go_quiet (fail)
          go_wp2
          go_ret
          refine ⟨?_, hB.trans (below_drewN _ _ _)⟩
          have : ¬ l1 = l2 := fun h => hx (by subst h; rfl)
          simp [this]
      · obtain rfl : k = l1.length := by omega
        have : l1 = l2 := by rw [List.take_of_length_le (Nat.le_refl _), List.take_of_length_le (by have := HL.out; omega)] at heq; exact heq
        have HT := Lib.hid this
        clear this heq
        go_wp2
        go_ret
        exact ⟨by rw [HT.out]; simp, hB⟩
  · have hb : ((l1.length : Int) != (l2.length : Int)) = true := by simp; omega
    have : ¬ l1 = l2 := fun h => hlen (by rw [h])
    go_enter Try.func32, Try.ntmps32
    go_wp2
    go_ret
    exact ⟨by simp [this], Below.refl _ _⟩

end Go.Proofs.Ytjfaihpiohccbaa

namespace Go.Proofs.Ytjfaihpiohccbaa
open Go.RowKit

/-- data: a value with all that it leads to -/
inductive D where
  | lit (v : Value)
  | agg (l : List D)
  | tup (l : List D)
  /-- a slice; c: no room behind it; f: in memory that is new -/
  | sl (c f : Bool) (l : List (List D))
  | ifc (t : TypeId) (d : D)
  /-- to cells that nobody writes to -/
  | pt (l : List D)
  | fn (f : FuncId) (first captured : List D)
  | any
  deriving Inhabited

/-- these cells stand at that address, in blocks that nobody writes to -/
def At (U : Nat → Prop) (w : World) (a : Option Addr) (cs : List Value) : Prop :=
  ∀ j u, cs[j]? = some u → ∃ b o, a = some ⟨b, o, none⟩ ∧ U b ∧ w.cell? ⟨b, o + j, none⟩ = some u

mutual
/-- the value is this data; U: the blocks that nobody writes to; those from B on are new -/
def drep (B : Nat) (U : Nat → Prop) (w : World) : D → Value → Prop
  | .lit v, u => u = v
  | .agg l, u => ∃ cs : List Value, u = .agg cs.toArray ∧ dreps B U w l cs
  | .tup l, u => ∃ cs : List Value, u = .tuple cs.toArray ∧ dreps B U w l cs
  | .sl c f l, u => ∃ a cap cs, u = .slice a l.length cap ∧ l.length ≤ cap ∧ cap ≤ maxLen ∧ (c = true → cap = l.length) ∧ (a = none → cap = 0) ∧
      (∃ sz, ∀ x ∈ l, x.length = sz) ∧ (∀ u ∈ cs, u.oneCell' = true) ∧ At (fun b => U b ∧ (f = true → B ≤ b)) w a cs ∧ drepss B U w l cs
  | .ifc t d, u => ∃ x, u = .iface t x ∧ drep B U w d x
  | .pt l, u => ∃ b o cs, u = .pointer (some ⟨b, o, none⟩) ∧ At (fun b => U b ∧ True) w (some ⟨b, o, none⟩) cs ∧ dreps B U w l cs
  | .fn f fi ca, u => ∃ xs ys : List Value, u = .func (.func f) xs.toArray ys.toArray ∧ dreps B U w fi xs ∧ dreps B U w ca ys
  | .any, _ => True
def dreps (B : Nat) (U : Nat → Prop) (w : World) : List D → List Value → Prop
  | [], cs => cs = []
  | x :: xs, cs => ∃ y ys, cs = y :: ys ∧ drep B U w x y ∧ dreps B U w xs ys
def drepss (B : Nat) (U : Nat → Prop) (w : World) : List (List D) → List Value → Prop
  | [], cs => cs = []
  | x :: xs, cs => ∃ c1 c2, cs = c1 ++ c2 ∧ dreps B U w x c1 ∧ drepss B U w xs c2
end

theorem At.mono {U U' : Nat → Prop} {w w' : World} {a : Option Addr} {cs : List Value} (h : At U w a cs) (hU : ∀ b, b < w.heap.size → U b → U' b ∧ w'.heap[b]? = w.heap[b]?) : At U' w' a cs := fun j u hj => by
  obtain ⟨b, o, e1, e2, e3⟩ := h j u hj
  have hb := hU b (World.block_lt_of_cell? w _ e3) e2
  exact ⟨b, o, e1, hb.1, (World.cell?_of_block hb.2).trans e3⟩
theorem At.imp {U U' : Nat → Prop} {w : World} {a : Option Addr} {cs : List Value} (h : At U w a cs) (hU : ∀ b, U b → U' b) : At U' w a cs := fun j u hj => by
  obtain ⟨b, o, e1, e2, e3⟩ := h j u hj
  exact ⟨b, o, e1, hU b e2, e3⟩

section
variable {B B' : Nat} {U U' : Nat → Prop} {w w' : World}
mutual
theorem drep_at (hA : ∀ (p : Nat → Prop) a cs, At (fun b => U b ∧ p b) w a cs → At (fun b => U' b ∧ p b) w' a cs) : ∀ {d : D} {u : Value}, drep B U w d u → drep B U' w' d u
  | .lit _, _, h => by simp only [drep] at h ⊢; exact h
  | .agg l, _, h => by simp only [drep] at h ⊢; obtain ⟨cs, e, k⟩ := h; exact ⟨cs, e, dreps_at hA k⟩
  | .tup l, _, h => by simp only [drep] at h ⊢; obtain ⟨cs, e, k⟩ := h; exact ⟨cs, e, dreps_at hA k⟩
  | .sl c f l, _, h => by
    simp only [drep] at h ⊢
    obtain ⟨a, cap, cs, e1, e2, e3, e4, e5, e6, e0, e7, e8⟩ := h
    exact ⟨a, cap, cs, e1, e2, e3, e4, e5, e6, e0, hA _ _ _ e7, drepss_at hA e8⟩
  | .ifc t d, _, h => by simp only [drep] at h ⊢; obtain ⟨x, e, k⟩ := h; exact ⟨x, e, drep_at hA k⟩
  | .pt l, _, h => by simp only [drep] at h ⊢; obtain ⟨b, o, cs, e, k1, k2⟩ := h; exact ⟨b, o, cs, e, hA _ _ _ k1, dreps_at hA k2⟩
  | .fn f fi ca, _, h => by simp only [drep] at h ⊢; obtain ⟨xs, ys, e, k1, k2⟩ := h; exact ⟨xs, ys, e, dreps_at hA k1, dreps_at hA k2⟩
  | .any, _, h => by simp only [drep]
theorem dreps_at (hA : ∀ (p : Nat → Prop) a cs, At (fun b => U b ∧ p b) w a cs → At (fun b => U' b ∧ p b) w' a cs) : ∀ {d : List D} {u : List Value}, dreps B U w d u → dreps B U' w' d u
  | [], _, h => by simp only [dreps] at h ⊢; exact h
  | x :: xs, _, h => by simp only [dreps] at h ⊢; obtain ⟨y, ys, e, k1, k2⟩ := h; exact ⟨y, ys, e, drep_at hA k1, dreps_at hA k2⟩
theorem drepss_at (hA : ∀ (p : Nat → Prop) a cs, At (fun b => U b ∧ p b) w a cs → At (fun b => U' b ∧ p b) w' a cs) : ∀ {d : List (List D)} {u : List Value}, drepss B U w d u → drepss B U' w' d u
  | [], _, h => by simp only [drepss] at h ⊢; exact h
  | x :: xs, _, h => by simp only [drepss] at h ⊢; obtain ⟨y, ys, e, k1, k2⟩ := h; exact ⟨y, ys, e, dreps_at hA k1, drepss_at hA k2⟩
end
mutual
theorem drep_base (hB : B' ≤ B) : ∀ {d : D} {u : Value}, drep B U w d u → drep B' U w d u
  | .lit _, _, h => by simp only [drep] at h ⊢; exact h
  | .agg l, _, h => by simp only [drep] at h ⊢; obtain ⟨cs, e, k⟩ := h; exact ⟨cs, e, dreps_base hB k⟩
  | .tup l, _, h => by simp only [drep] at h ⊢; obtain ⟨cs, e, k⟩ := h; exact ⟨cs, e, dreps_base hB k⟩
  | .sl c f l, _, h => by
    simp only [drep] at h ⊢
    obtain ⟨a, cap, cs, e1, e2, e3, e4, e5, e6, e0, e7, e8⟩ := h
    exact ⟨a, cap, cs, e1, e2, e3, e4, e5, e6, e0, e7.imp fun b ⟨h1, h2⟩ => ⟨h1, fun hf => Nat.le_trans hB (h2 hf)⟩, drepss_base hB e8⟩
  | .ifc t d, _, h => by simp only [drep] at h ⊢; obtain ⟨x, e, k⟩ := h; exact ⟨x, e, drep_base hB k⟩
  | .pt l, _, h => by simp only [drep] at h ⊢; obtain ⟨b, o, cs, e, k1, k2⟩ := h; exact ⟨b, o, cs, e, k1, dreps_base hB k2⟩
  | .fn f fi ca, _, h => by simp only [drep] at h ⊢; obtain ⟨xs, ys, e, k1, k2⟩ := h; exact ⟨xs, ys, e, dreps_base hB k1, dreps_base hB k2⟩
  | .any, _, h => by simp only [drep]
theorem dreps_base (hB : B' ≤ B) : ∀ {d : List D} {u : List Value}, dreps B U w d u → dreps B' U w d u
  | [], _, h => by simp only [dreps] at h ⊢; exact h
  | x :: xs, _, h => by simp only [dreps] at h ⊢; obtain ⟨y, ys, e, k1, k2⟩ := h; exact ⟨y, ys, e, drep_base hB k1, dreps_base hB k2⟩
theorem drepss_base (hB : B' ≤ B) : ∀ {d : List (List D)} {u : List Value}, drepss B U w d u → drepss B' U w d u
  | [], _, h => by simp only [drepss] at h ⊢; exact h
  | x :: xs, _, h => by simp only [drepss] at h ⊢; obtain ⟨y, ys, e, k1, k2⟩ := h; exact ⟨y, ys, e, dreps_base hB k1, drepss_base hB k2⟩
end
theorem At.cells {p : Nat → Prop} (hU : ∀ b cs t fz, w.heap[b]? = some (.cells cs t fz) → U b → U' b ∧ w'.heap[b]? = w.heap[b]?) {a : Option Addr} {cs : List Value} (h : At (fun b => U b ∧ p b) w a cs) : At (fun b => U' b ∧ p b) w' a cs := fun j u hj => by
  obtain ⟨b, o, e1, ⟨e2, e2'⟩, e3⟩ := h j u hj
  have hc : ∃ cs t fz, w.heap[b]? = some (.cells cs t fz) := by
    simp only [World.cell?] at e3
    split at e3
    · exact ⟨_, _, _, by assumption⟩
    · simp at e3
  obtain ⟨cs', t, fz, hc⟩ := hc
  have hb := hU b _ _ _ hc e2
  exact ⟨b, o, e1, ⟨hb.1, e2'⟩, (World.cell?_of_block hb.2).trans e3⟩
theorem drep_mono (hB : B' ≤ B) (hU : ∀ b, b < w.heap.size → U b → U' b ∧ w'.heap[b]? = w.heap[b]?) {d : D} {u : Value} (h : drep B U w d u) : drep B' U' w' d u :=
  drep_at (fun _ _ _ h => h.mono fun b hb ⟨h1, h2⟩ => ⟨⟨(hU b hb h1).1, h2⟩, (hU b hb h1).2⟩) (drep_base hB h)
theorem dreps_mono (hB : B' ≤ B) (hU : ∀ b, b < w.heap.size → U b → U' b ∧ w'.heap[b]? = w.heap[b]?) {d : List D} {u : List Value} (h : dreps B U w d u) : dreps B' U' w' d u :=
  dreps_at (fun _ _ _ h => h.mono fun b hb ⟨h1, h2⟩ => ⟨⟨(hU b hb h1).1, h2⟩, (hU b hb h1).2⟩) (dreps_base hB h)
theorem drepss_mono (hB : B' ≤ B) (hU : ∀ b, b < w.heap.size → U b → U' b ∧ w'.heap[b]? = w.heap[b]?) {d : List (List D)} {u : List Value} (h : drepss B U w d u) : drepss B' U' w' d u :=
  drepss_at (fun _ _ _ h => h.mono fun b hb ⟨h1, h2⟩ => ⟨⟨(hU b hb h1).1, h2⟩, (hU b hb h1).2⟩) (drepss_base hB h)

theorem dreps_len : ∀ {l : List D} {cs : List Value}, dreps B U w l cs → cs.length = l.length
  | [], _, h => by simp only [dreps] at h; subst h; rfl
  | x :: xs, _, h => by simp only [dreps] at h; obtain ⟨y, ys, e, _, k⟩ := h; subst e; simp [dreps_len k]
theorem dreps_get : ∀ {l : List D} {cs : List Value}, dreps B U w l cs → ∀ {i : Nat} {x : D}, l[i]? = some x → ∃ y, cs[i]? = some y ∧ drep B U w x y
  | [], _, h, i, x, hx => by simp at hx
  | x :: xs, _, h, i, z, hx => by
    simp only [dreps] at h
    obtain ⟨y, ys, e, k1, k2⟩ := h
    subst e
    cases i with
    | zero => simp only [List.getElem?_cons_zero, Option.some.injEq] at hx; subst hx; exact ⟨y, rfl, k1⟩
    | succ i => simp only [List.getElem?_cons_succ] at hx ⊢; exact dreps_get k2 hx
theorem dreps_app : ∀ {l m : List D} {cs ds : List Value}, dreps B U w l cs → dreps B U w m ds → dreps B U w (l ++ m) (cs ++ ds)
  | [], m, cs, ds, h, k => by simp only [dreps] at h; subst h; exact k
  | x :: xs, m, _, ds, h, k => by
    simp only [dreps] at h
    obtain ⟨y, ys, e, k1, k2⟩ := h
    subst e
    simp only [List.cons_append, dreps]
    exact ⟨y, ys ++ ds, rfl, k1, dreps_app k2 k⟩
theorem dreps_mk : ∀ {l : List D} {cs : List Value}, cs.length = l.length → (∀ (i : Nat) x y, l[i]? = some x → cs[i]? = some y → drep B U w x y) → dreps B U w l cs
  | [], cs, h, _ => by simp only [dreps]; exact List.eq_nil_of_length_eq_zero h
  | x :: xs, [], h, _ => by simp at h
  | x :: xs, y :: ys, h, k => by
    simp only [dreps]
    exact ⟨y, ys, rfl, k 0 x y rfl rfl, dreps_mk (by simpa using h) fun i a b ha hb => k (i + 1) a b ha hb⟩
theorem drepss_len {sz : Nat} : ∀ {l : List (List D)} {cs : List Value}, (∀ x ∈ l, x.length = sz) → drepss B U w l cs → cs.length = l.length * sz
  | [], _, _, h => by simp only [drepss] at h; subst h; simp
  | x :: xs, _, hz, h => by
    simp only [drepss] at h
    obtain ⟨c1, c2, e, k1, k2⟩ := h
    subst e
    have h1 := dreps_len k1
    have h2 := hz x (by simp)
    rw [List.length_append, drepss_len (fun y hy => hz y (by simp [hy])) k2, h1, h2, List.length_cons, Nat.add_mul]; omega
theorem drepss_get {sz : Nat} : ∀ {l : List (List D)} {cs : List Value}, (∀ x ∈ l, x.length = sz) → drepss B U w l cs → ∀ {i : Nat} {x : List D}, l[i]? = some x → dreps B U w x ((cs.drop (i * sz)).take sz)
  | [], _, _, _, i, x, hx => by simp at hx
  | y :: ys, _, hz, h, i, x, hx => by
    simp only [drepss] at h
    obtain ⟨c1, c2, e, k1, k2⟩ := h
    subst e
    have h1 := dreps_len k1
    have h2 := hz y (by simp)
    cases i with
    | zero =>
      simp only [List.getElem?_cons_zero, Option.some.injEq] at hx; subst hx
      simp only [Nat.zero_mul, List.drop_zero]
      rw [List.take_append_of_le_length (by omega), List.take_of_length_le (by omega)]; exact k1
    | succ i =>
      simp only [List.getElem?_cons_succ] at hx
      have := drepss_get (fun y hy => hz y (by simp [hy])) k2 hx
      rw [List.drop_append, List.drop_of_length_le (show c1.length ≤ (i + 1) * sz by rw [Nat.add_mul]; omega), List.nil_append, show (i + 1) * sz - c1.length = i * sz by rw [Nat.add_mul]; omega]
      exact this
theorem drepss_app : ∀ {l m : List (List D)} {cs ds : List Value}, drepss B U w l cs → drepss B U w m ds → drepss B U w (l ++ m) (cs ++ ds)
  | [], m, cs, ds, h, k => by simp only [drepss] at h; subst h; exact k
  | x :: xs, m, _, ds, h, k => by
    simp only [drepss] at h
    obtain ⟨c1, c2, e, k1, k2⟩ := h
    subst e
    simp only [List.cons_append, drepss]
    exact ⟨c1, c2 ++ ds, by simp, k1, drepss_app k2 k⟩
theorem drepss_part {sz : Nat} : ∀ {l : List (List D)} {cs : List Value}, (∀ x ∈ l, x.length = sz) → drepss B U w l cs → ∀ (i : Nat), drepss B U w (l.take i) (cs.take (i * sz)) ∧ drepss B U w (l.drop i) (cs.drop (i * sz))
  | [], _, _, h, i => by simp only [drepss] at h; subst h; simp [drepss]
  | y :: ys, _, hz, h, i => by
    have h0 := h
    simp only [drepss] at h
    obtain ⟨c1, c2, e, k1, k2⟩ := h
    subst e
    have h1 := dreps_len k1
    have h2 := hz y (by simp)
    cases i with
    | zero => simp only [List.take_zero, Nat.zero_mul, List.drop_zero, drepss]; exact ⟨trivial, c1, c2, rfl, k1, k2⟩
    | succ i =>
      obtain ⟨p, q⟩ := drepss_part (fun y hy => hz y (by simp [hy])) k2 i
      have e1 : (i + 1) * sz = c1.length + i * sz := by rw [Nat.add_mul]; omega
      rw [e1, List.take_length_add_append, List.drop_length_add_append]
      simp only [List.take_succ_cons, List.drop_succ_cons, drepss]
      exact ⟨⟨c1, _, rfl, k1, p⟩, q⟩
end

/-! ### what one hands on says less -/
/-- what is this data is that one too -/
def dle (x y : D) : Prop := ∀ B U w u, drep B U w x u → drep B U w y u
theorem dle_refl (x : D) : dle x x := fun _ _ _ _ h => h
theorem dle_any (x : D) : dle x .any := fun _ _ _ _ _ => by simp only [drep]
theorem dle_sl (c f : Bool) (l : List (List D)) : dle (.sl c f l) (.sl false false l) := fun B U w u h => by
  simp only [drep] at h ⊢
  obtain ⟨a, cap, cs, e1, e2, e3, e4, e5, e6, e0, e7, e8⟩ := h
  exact ⟨a, cap, cs, e1, e2, e3, (fun h => by cases h), e5, e6, e0, e7.imp fun b h => ⟨h.1, fun h => by cases h⟩, e8⟩
theorem dle_slf (c f : Bool) (l : List (List D)) : dle (.sl c f l) (.sl false f l) := fun B U w u h => by
  simp only [drep] at h ⊢
  obtain ⟨a, cap, cs, e1, e2, e3, e4, e5, e6, e0, e7, e8⟩ := h
  exact ⟨a, cap, cs, e1, e2, e3, (fun h => by cases h), e5, e6, e0, e7, e8⟩
theorem dle_nil (c f : Bool) : dle (.lit (.slice none 0 0)) (.sl c f []) := fun B U w u h => by
  simp only [drep] at h ⊢
  exact ⟨none, 0, [], h, by simp, by simp, fun _ => rfl, fun _ => rfl, ⟨0, by simp⟩, by simp, (fun j u hj => by simp at hj), by simp only [drepss]⟩
def dles : List D → List D → Prop
  | [], [] => True
  | x :: xs, y :: ys => dle x y ∧ dles xs ys
  | _, _ => False
theorem dles_reps {B : Nat} {U : Nat → Prop} {w : World} : ∀ {xs ys : List D}, dles xs ys → ∀ {us : List Value}, dreps B U w xs us → dreps B U w ys us
  | [], [], _, _, h => h
  | x :: xs, y :: ys, h, _, k => by
    simp only [dreps] at k ⊢
    obtain ⟨u, us, e, k1, k2⟩ := k
    exact ⟨u, us, e, h.1 _ _ _ _ k1, dles_reps h.2 k2⟩
  | [], _ :: _, h, _, _ => h.elim
  | _ :: _, [], h, _, _ => h.elim
theorem dle_agg {xs ys : List D} (h : dles xs ys) : dle (.agg xs) (.agg ys) := fun B U w u k => by
  simp only [drep] at k ⊢
  obtain ⟨cs, e, k⟩ := k
  exact ⟨cs, e, dles_reps h k⟩
theorem dle_tup {xs ys : List D} (h : dles xs ys) : dle (.tup xs) (.tup ys) := fun B U w u k => by
  simp only [drep] at k ⊢
  obtain ⟨cs, e, k⟩ := k
  exact ⟨cs, e, dles_reps h k⟩

/-! ### values of a walk: data, and what leads to its own variables and rows -/
inductive V where
  | d (x : D)
  | agg (l : List V)
  | tup (l : List V)
  /-- into variable k, at a cell -/
  | ptr (k off : Nat)
  /-- to cells that nobody writes to -/
  | ep (l : List D)
  /-- row k, as it was at a time -/
  | row (k ver : Nat)
  /-- into row k, at a cell of an element -/
  | rp (k ver sz i j : Nat)
  | fn (f : Fn) (first captured : List V)
  | ifc (t : TypeId) (x : V)
  /-- a slice of cells of variable k -/
  | sv (k off n cap sz : Nat)
  /-- the first n of row k, with no room behind them -/
  | rv (k ver n : Nat)
  /-- what the iterator of loop k calls -/
  | yl (k : Nat)
  deriving Inhabited

/-- which blocks the variables and rows are -/
structure G where
  /-- others' blocks -/
  ex : Nat → Prop
  bx : Nat → Option Nat
  rb : Nat → Option Nat
  rw : Nat → Nat → Option Value

def G.own (g : G) (b : Nat) : Prop := g.ex b ∨ (∃ k, g.bx k = some b) ∨ ∃ k, g.rb k = some b
def G.prot (g : G) (b : Nat) : Prop := ¬ g.own b

mutual
def vrep (B : Nat) (g : G) (w : World) : V → Value → Prop
  | .d x, u => drep B g.prot w x u
  | .agg l, u => ∃ cs : List Value, u = .agg cs.toArray ∧ vreps B g w l cs
  | .tup l, u => ∃ cs : List Value, u = .tuple cs.toArray ∧ vreps B g w l cs
  | .ptr k off, u => ∃ b, g.bx k = some b ∧ u = .pointer (some ⟨b, off, none⟩)
  | .ep l, u => ∃ b o cs, u = .pointer (some ⟨b, o, none⟩) ∧ At g.prot w (some ⟨b, o, none⟩) cs ∧ dreps B g.prot w l cs
  | .row k v, u => g.rw k v = some u ∧ u.oneCell' = true
  | .rp k v sz i j, u => ∃ b n c, g.rw k v = some (.slice (some ⟨b, 0, none⟩) n c) ∧ u = .pointer (some ⟨b, i * sz + j, none⟩)
  | .fn f fi ca, u => ∃ xs ys : List Value, u = .func f xs.toArray ys.toArray ∧ vreps B g w fi xs ∧ vreps B g w ca ys
  | .ifc t x, u => ∃ y, u = .iface t y ∧ vrep B g w x y
  | .sv k off n cap _, u => ∃ b, g.bx k = some b ∧ u = .slice (some ⟨b, off, none⟩) n cap ∧ n ≤ cap ∧ cap ≤ maxLen
  | .yl k, u => ∃ b, g.bx k = some b ∧ u = .func (.yield b) #[] #[]
  | .rv k v n, u => ∃ a m c, g.rw k v = some (.slice a m c) ∧ u = .slice a n n
def vreps (B : Nat) (g : G) (w : World) : List V → List Value → Prop
  | [], cs => cs = []
  | x :: xs, cs => ∃ y ys, cs = y :: ys ∧ vrep B g w x y ∧ vreps B g w xs ys
end

/-- what a walk turns: its own variables and rows, and what is new -/
structure Evo (B : Nat) (g : G) (w : World) (g' : G) (w' : World) : Prop where
  os : w'.os = w.os
  tape : w'.tape = w.tape
  output : w'.output = w.output
  size : w.heap.size ≤ w'.heap.size
  bx : ∀ {k b}, g.bx k = some b → g'.bx k = some b
  rw : ∀ {k i v}, g.rw k i = some v → g'.rw k i = some v
  blk : ∀ b, b < w.heap.size → g.prot b → g'.prot b ∧ w'.heap[b]? = w.heap[b]?
  ex : g'.ex = g.ex
  exblk : ∀ b, g.ex b → w'.heap[b]? = w.heap[b]?

theorem Evo.refl (B : Nat) (g : G) (w : World) : Evo B g w g w := ⟨rfl, rfl, rfl, Nat.le_refl _, id, id, fun _ _ h => ⟨h, rfl⟩, rfl, fun _ _ => rfl⟩
theorem Evo.trans {B : Nat} {g g1 g2 : G} {w w1 w2 : World} (h : Evo B g w g1 w1) (k : Evo B g1 w1 g2 w2) : Evo B g w g2 w2 :=
  ⟨k.os.trans h.os, k.tape.trans h.tape, k.output.trans h.output, Nat.le_trans h.size k.size, fun e => k.bx (h.bx e), fun e => k.rw (h.rw e),
   fun b hb hp => let ⟨h1, h2⟩ := h.blk b hb hp; let ⟨k1, k2⟩ := k.blk b (Nat.lt_of_lt_of_le hb h.size) h1; ⟨k1, k2.trans h2⟩,
   k.ex.trans h.ex, fun b hb => (k.exblk b (by rw [h.ex]; exact hb)).trans (h.exblk b hb)⟩

/-- the same from afar: of the variables and rows only those below m are still known -/
structure Ext (m : Nat) (g : G) (w : World) (g' : G) (w' : World) : Prop where
  os : w'.os = w.os
  tape : w'.tape = w.tape
  output : w'.output = w.output
  size : w.heap.size ≤ w'.heap.size
  bx : ∀ {k b}, k < m → g.bx k = some b → g'.bx k = some b
  rw : ∀ {k i v}, k < m → g.rw k i = some v → g'.rw k i = some v
  blk : ∀ b, b < w.heap.size → g.prot b → g'.prot b ∧ w'.heap[b]? = w.heap[b]?
  ex : g'.ex = g.ex
  exblk : ∀ b, g.ex b → w'.heap[b]? = w.heap[b]?
theorem Ext.refl (m : Nat) (g : G) (w : World) : Ext m g w g w := ⟨rfl, rfl, rfl, Nat.le_refl _, fun _ h => h, fun _ h => h, fun _ _ h => ⟨h, rfl⟩, rfl, fun _ _ => rfl⟩
theorem Ext.trans {m B : Nat} {g g1 g2 : G} {w w1 w2 : World} (h : Ext m g w g1 w1) (k : Evo B g1 w1 g2 w2) : Ext m g w g2 w2 :=
  ⟨k.os.trans h.os, k.tape.trans h.tape, k.output.trans h.output, Nat.le_trans h.size k.size, fun hk e => k.bx (h.bx hk e), fun hk e => k.rw (h.rw hk e),
   fun b hb hp => let ⟨h1, h2⟩ := h.blk b hb hp; let ⟨k1, k2⟩ := k.blk b (Nat.lt_of_lt_of_le hb h.size) h1; ⟨k1, k2.trans h2⟩,
   k.ex.trans h.ex, fun b hb => (k.exblk b (by rw [h.ex]; exact hb)).trans (h.exblk b hb)⟩

section
variable {B : Nat} {g g' : G} {w w' : World}
theorem Evo.drep (h : Evo B g w g' w') {d : D} {u : Value} (k : drep B g.prot w d u) : drep B g'.prot w' d u := drep_mono (Nat.le_refl _) (fun b hb hp => h.blk b hb hp) k
theorem Evo.dreps (h : Evo B g w g' w') {d : List D} {u : List Value} (k : dreps B g.prot w d u) : dreps B g'.prot w' d u := dreps_mono (Nat.le_refl _) (fun b hb hp => h.blk b hb hp) k
theorem Evo.drepss (h : Evo B g w g' w') {d : List (List D)} {u : List Value} (k : drepss B g.prot w d u) : drepss B g'.prot w' d u := drepss_mono (Nat.le_refl _) (fun b hb hp => h.blk b hb hp) k
mutual
theorem Evo.vrep (h : Evo B g w g' w') : ∀ {d : V} {u : Value}, vrep B g w d u → vrep B g' w' d u
  | .d x, _, k => by simp only [Go.Proofs.Ytjfaihpiohccbaa.vrep] at k ⊢; exact h.drep k
  | .agg l, _, k => by simp only [Go.Proofs.Ytjfaihpiohccbaa.vrep] at k ⊢; obtain ⟨cs, e, k⟩ := k; exact ⟨cs, e, Evo.vreps h k⟩
  | .tup l, _, k => by simp only [Go.Proofs.Ytjfaihpiohccbaa.vrep] at k ⊢; obtain ⟨cs, e, k⟩ := k; exact ⟨cs, e, Evo.vreps h k⟩
  | .ptr _ _, _, k => by simp only [Go.Proofs.Ytjfaihpiohccbaa.vrep] at k ⊢; obtain ⟨b, e, k⟩ := k; exact ⟨b, h.bx e, k⟩
  | .ep l, _, k => by simp only [Go.Proofs.Ytjfaihpiohccbaa.vrep] at k ⊢; obtain ⟨b, o, cs, e, k1, k2⟩ := k; exact ⟨b, o, cs, e, k1.mono fun b hb hp => h.blk b hb hp, h.dreps k2⟩
  | .row _ _, _, k => by simp only [Go.Proofs.Ytjfaihpiohccbaa.vrep] at k ⊢; exact ⟨h.rw k.1, k.2⟩
  | .rp _ _ _ _ _, _, k => by simp only [Go.Proofs.Ytjfaihpiohccbaa.vrep] at k ⊢; obtain ⟨b, n, c, e, k⟩ := k; exact ⟨b, n, c, h.rw e, k⟩
  | .fn _ _ _, _, k => by simp only [Go.Proofs.Ytjfaihpiohccbaa.vrep] at k ⊢; obtain ⟨xs, ys, e, k1, k2⟩ := k; exact ⟨xs, ys, e, Evo.vreps h k1, Evo.vreps h k2⟩
  | .ifc t x, _, k => by simp only [Go.Proofs.Ytjfaihpiohccbaa.vrep] at k ⊢; obtain ⟨y, e, k⟩ := k; exact ⟨y, e, Evo.vrep h k⟩
  | .sv _ _ _ _ _, _, k => by simp only [Go.Proofs.Ytjfaihpiohccbaa.vrep] at k ⊢; obtain ⟨b, e, k⟩ := k; exact ⟨b, h.bx e, k⟩
  | .yl _, _, k => by simp only [Go.Proofs.Ytjfaihpiohccbaa.vrep] at k ⊢; obtain ⟨b, e, k⟩ := k; exact ⟨b, h.bx e, k⟩
  | .rv _ _ _, _, k => by simp only [Go.Proofs.Ytjfaihpiohccbaa.vrep] at k ⊢; obtain ⟨a, m, c, e, k⟩ := k; exact ⟨a, m, c, h.rw e, k⟩
theorem Evo.vreps (h : Evo B g w g' w') : ∀ {d : List V} {u : List Value}, vreps B g w d u → vreps B g' w' d u
  | [], _, k => by simp only [Go.Proofs.Ytjfaihpiohccbaa.vreps] at k ⊢; exact k
  | x :: xs, _, k => by simp only [Go.Proofs.Ytjfaihpiohccbaa.vreps] at k ⊢; obtain ⟨y, ys, e, k1, k2⟩ := k; exact ⟨y, ys, e, Evo.vrep h k1, Evo.vreps h k2⟩
end
theorem vreps_len : ∀ {l : List V} {cs : List Value}, vreps B g w l cs → cs.length = l.length
  | [], _, h => by simp only [vreps] at h; subst h; rfl
  | x :: xs, _, h => by simp only [vreps] at h; obtain ⟨y, ys, e, _, k⟩ := h; subst e; simp [vreps_len k]
theorem vreps_get : ∀ {l : List V} {cs : List Value}, vreps B g w l cs → ∀ {i : Nat} {x : V}, l[i]? = some x → ∃ y, cs[i]? = some y ∧ vrep B g w x y
  | [], _, h, i, x, hx => by simp at hx
  | x :: xs, _, h, i, z, hx => by
    simp only [vreps] at h
    obtain ⟨y, ys, e, k1, k2⟩ := h
    subst e
    cases i with
    | zero => simp only [List.getElem?_cons_zero, Option.some.injEq] at hx; subst hx; exact ⟨y, rfl, k1⟩
    | succ i => simp only [List.getElem?_cons_succ] at hx ⊢; exact vreps_get k2 hx
theorem vreps_app : ∀ {l m : List V} {cs ds : List Value}, vreps B g w l cs → vreps B g w m ds → vreps B g w (l ++ m) (cs ++ ds)
  | [], m, cs, ds, h, k => by simp only [vreps] at h; subst h; exact k
  | x :: xs, m, _, ds, h, k => by
    simp only [vreps] at h
    obtain ⟨y, ys, e, k1, k2⟩ := h
    subst e
    simp only [List.cons_append, vreps]
    exact ⟨y, ys ++ ds, rfl, k1, vreps_app k2 k⟩
theorem vreps_part : ∀ {l : List V} {cs : List Value}, vreps B g w l cs → ∀ i, vreps B g w (l.take i) (cs.take i) ∧ vreps B g w (l.drop i) (cs.drop i)
  | [], _, h, i => by simp only [vreps] at h; subst h; simp [vreps]
  | x :: xs, _, h, i => by
    have h0 := h
    simp only [vreps] at h
    obtain ⟨y, ys, e, k1, k2⟩ := h
    subst e
    cases i with
    | zero => exact ⟨by simp [vreps], by simpa using h0⟩
    | succ i => obtain ⟨p, q⟩ := vreps_part k2 i; simp only [List.take_succ_cons, List.drop_succ_cons, vreps]; exact ⟨⟨y, _, rfl, k1, p⟩, q⟩
theorem vreps_d : ∀ {l : List D} {cs : List Value}, dreps B g.prot w l cs → vreps B g w (l.map .d) cs
  | [], _, h => by simpa [vreps, dreps] using h
  | x :: xs, _, h => by
    simp only [dreps] at h
    obtain ⟨y, ys, e, k1, k2⟩ := h
    simp only [List.map_cons, vreps]
    exact ⟨y, ys, e, (by simp only [vrep]; exact k1), vreps_d k2⟩
end

/-! ### the state of a walk, as a log: the last word counts -/
inductive E where
  /-- cells of variable k, from an offset on -/
  | c (k off : Nat) (vs : List V)
  /-- row k at a time: its own, or left to all; is it new -/
  | r (own nw : Bool) (k ver : Nat) (e : TypeId) (sz : Nat) (l : List (List D))
  /-- block k is this loop's, if it is one's; the slots of what waits for k to end -/
  | y (k : Nat) (r : Option Loop) (T : Array Value) (tm : List (Nat × V))

def cellAt (k off : Nat) : List E → Option V
  | [] => none
  | .c k' o' vs :: s => match Nat.beq k k' with
    | true => (match Nat.ble o' off with
      | true => (match vs[off - o']? with
        | some v => some v
        | none => cellAt k off s)
      | false => cellAt k off s)
    | false => cellAt k off s
  | .r _ _ _ _ _ _ _ :: s => cellAt k off s
  | .y _ _ _ _ :: s => cellAt k off s
def cellsAt (k off : Nat) (s : List E) : Nat → Option (List V)
  | 0 => some []
  | n + 1 => match cellAt k off s with
    | none => none
    | some v => (match cellsAt k (off + 1) s n with
      | none => none
      | some vs => some (v :: vs))
def rowAt (k : Nat) : List E → Option (Bool × Bool × Nat × TypeId × Nat × List (List D))
  | [] => none
  | .r o nw k' v e sz l :: s => match Nat.beq k k' with
    | true => some (o, nw, v, e, sz, l)
    | false => rowAt k s
  | .c _ _ _ :: s => rowAt k s
  | .y _ _ _ _ :: s => rowAt k s
def loopAt (k : Nat) : List E → Option (Option Loop × Array Value × List (Nat × V))
  | [] => none
  | .y k' r T tm :: s => match Nat.beq k k' with
    | true => some (r, T, tm)
    | false => loopAt k s
  | .r _ _ _ _ _ _ _ :: s => loopAt k s
  | .c _ _ _ :: s => loopAt k s
def lookT (t : Nat) : List (Nat × V) → Option V
  | [] => none
  | (t', v) :: s => match Nat.beq t t' with
    | true => some v
    | false => lookT t s

/-- nothing is owned twice; names from nb on are not in use -/
structure Inv (B nb : Nat) (g : G) (w : World) : Prop where
  bxlt : ∀ {k b}, g.bx k = some b → b < w.heap.size ∧ k < nb
  rblt : ∀ {k b}, g.rb k = some b → b < w.heap.size ∧ k < nb
  rwlt : ∀ {k i v}, g.rw k i = some v → k < nb
  bxinj : ∀ {k k' b}, g.bx k = some b → g.bx k' = some b → k = k'
  rbinj : ∀ {k k' b}, g.rb k = some b → g.rb k' = some b → k = k'
  apart : ∀ {k k' b}, g.bx k = some b → g.rb k' = some b → False
  exlt : ∀ {b}, g.ex b → b < w.heap.size
  exbx : ∀ {k b}, g.bx k = some b → ¬ g.ex b
  exrb : ∀ {k b}, g.rb k = some b → ¬ g.ex b
  base : B ≤ w.heap.size

theorem Evo.of_below {B nb : Nat} {g : G} {w w' : World} (hi : Inv B nb g w) (h : Below w.heap.size w w') : Evo B g w g w' :=
  ⟨h.os, h.tape, h.output, h.size, id, id, fun b hb hp => ⟨hp, h.block b hb⟩, rfl, fun b hb => h.block b (hi.exlt hb)⟩

/-- the log is true -/
structure SimS (B : Nat) (g : G) (w : World) (s : List E) : Prop where
  cell : ∀ {k off v}, cellAt k off s = some v → ∃ b rcs ty u, g.bx k = some b ∧ w.heap[b]? = some (.cells rcs ty (0, 0)) ∧ rcs[off]? = some u ∧ vrep B g w v u
  row : ∀ {k o nw ver e sz l}, rowAt k s = some (o, nw, ver, e, sz, l) → ∃ v xs, g.rw k ver = some v ∧ drepss B g.prot w l xs ∧ ((∀ x ∈ l, x.length = sz) ∧ (∀ u ∈ xs, u.oneCell' = true) ∧ ∀ i v', g.rw k i = some v' → i ≤ ver) ∧ (nw = true → ∀ b, v.ownBlock = some b → B ≤ b) ∧
    ((o = true ∧ w.ownsRow 0 e sz v l.length xs ∧ g.rb k = v.ownBlock) ∨ (o = false ∧ g.rb k = none ∧ drep B g.prot w (.sl false nw l) v))
  loop : ∀ {k r T tm}, loopAt k s = some (r, T, tm) → (∀ lp, r = some lp → ∃ b, g.bx k = some b ∧ w.heap[b]? = some (.loop lp)) ∧ ∀ {t v}, lookT t tm = some v → vrep B g w v (T.getD t undef)

end Go.Proofs.Ytjfaihpiohccbaa

namespace Go.Proofs.Ytjfaihpiohccbaa
open Go.RowKit

structure St where
  tm : List (Nat × V)
  st : List E
  nb : Nat

/-- where a walk is: the program, the frame's size, the round, the base of what is new -/
structure Cx where
  N : Nat
  rd : Option Nat
  B : Nat
  /-- names that were there at the start -/
  m : Nat
  /-- the base of its own marks; none: it has none -/
  M : Option Nat
  /-- what is deferred behind them -/
  df : List (FuncId × List V)

/-- calls that are deferred -/
def DfL (B : Nat) (g : G) (w : World) : List (FuncId × List V) → List Deferred → Prop
  | [], ds => ds = []
  | (f, vs) :: df, ds => ∃ us r, ds = { target := .fn (.func f) us.toArray, args := #[] } :: r ∧ vreps B g w vs us ∧ DfL B g w df r
/-- deferred: the marks of ranges that are over, and behind them these calls -/
def Marks (cx : Cx) (g : G) (w : World) (ds : List Deferred) : Prop := (∀ m, cx.M = some m → m ≤ w.heap.size) ∧ ∃ (bs : List Nat) (r : List Deferred), ds = bs.map (fun b => { target := .collected b, args := #[] }) ++ r ∧ bs.Nodup ∧ (∀ b ∈ bs, g.prot b ∧ (∃ m, cx.M = some m ∧ m ≤ b) ∧ w.heap[b]? = some (.deferred (some []))) ∧ DfL cx.B g w cx.df r

structure Sim (cx : Cx) (g : G) (a : Act) (w : World) (s : St) : Prop where
  size : a.tmps.size = cx.N
  tm : ∀ {t v}, lookT t s.tm = some v → vrep cx.B g w v (a.tmps.getD t undef)
  st : SimS cx.B g w s.st
  inv : Inv cx.B s.nb g w
  defers : Marks cx g w a.defers

/-- how a piece of code ends -/
inductive VE where
  | normal
  | exit (id : Nat)
  | goto (l : Nat)
  | ret
  | panic (v : V)

def erel (B : Nat) (g : G) (w : World) : VE → Exit → Prop
  | .normal, e => e = .normal
  | .exit id, e => e = .exit id
  | .goto l, e => e = .goto l
  | .ret, e => e = .ret
  | .panic v, e => ∃ u, e = .panic [{ v := u, recovered := false }] ∧ vrep B g w v u

def vpost (cx : Cx) (g : G) (w : World) (Q : VE → St → Prop) (e : Exit) (a' : Act) (w' : World) : Prop :=
  ∃ g' s' e', Ext cx.m g w g' w' ∧ Sim cx g' a' w' s' ∧ erel cx.B g' w' e' e ∧ Q e' s'

/-- the fence that lets all by -/
def FW (rd : Option Nat) : Fence := { fn := fun _ => True, depth := none, alive := false, round := rd }
theorem fenced_FW (P : Program) (rd : Option Nat) (m : Machine) : m.fenced P (FW rd) := by
  intro g _
  refine ⟨fun h => ?_, Or.inl trivial, fun _ _ => trivial, fun _ h => ?_⟩
  · simp [FW] at h
  · simp [FW] at h
theorem FW_room (rd : Option Nat) (n : Nat) : (FW rd).room n := fun _ h => by simp [FW] at h

/-- the code, from this state on -/
def VW (P : Program) (cx : Cx) (c : Code) (s : St) (Q : VE → St → Prop) : Prop :=
  ∀ n g0 w0 g a w, Ext cx.m g0 w0 g w → Sim cx g a w s → c.wpIn (FW cx.rd) n P (vpost cx g0 w0 Q) a w

/-- a list of operations -/
def wplIn (F : Fence) (n : Nat) (P : Program) (ops : Array Oper) (Q : Exit → Act → World → Prop) : List Oper → Act → World → Prop
  | [], a, w => Q .normal a w
  | o :: rest, a, w =>
    if Region.wanted o (yielded ops a.tmps) then o.wpIn F n P a w (wplIn F n P ops Q rest) Q
    else (∀ f, o.about P w a.eval = some f → F.fn f) ∧ wplIn F n P ops Q rest (a.put o.dst undef) w
theorem wpOpsIn_of {F : Fence} {n : Nat} {P : Program} {ops : Array Oper} {Q : Exit → Act → World → Prop} : ∀ (l : List Nat) (os : List Oper), l.map (ops[·]?) = os.map some →
    wpOpsIn F n P ops Q l = wplIn F n P ops Q os
  | [], [], _ => rfl
  | [], _ :: _, h => by simp at h
  | _ :: _, [], h => by simp at h
  | i :: l, o :: os, h => by
    simp only [List.map_cons, List.cons.injEq] at h
    have ih := wpOpsIn_of (F := F) (n := n) (P := P) (Q := Q) l os h.2
    funext a w
    simp only [wpOpsIn, wplIn, h.1, ih]
theorem wpIn_region_l {F : Fence} {n : Nat} {P : Program} {id : Nat} {l : List Oper} {Q : Exit → Act → World → Prop} {a : Act} {w : World} (h : wplIn F n P l.toArray Q l a w) : (Code.region id l.toArray false).wpIn F n P Q a w := by
  refine wpIn_region ?_
  rw [wpOpsIn_of (List.range l.toArray.size) l]
  · exact h
  · apply List.ext_getElem
    · simp
    · intro i h1 h2
      simp at h1
      simp [h1]

/-- the operations of a region, from this state on -/
def VL (P : Program) (cx : Cx) (ops : List Oper) (rest : List Oper) (s : St) (Q : VE → St → Prop) : Prop :=
  ∀ n g0 w0 g a w, Ext cx.m g0 w0 g w → Sim cx g a w s → wplIn (FW cx.rd) n P ops.toArray (vpost cx g0 w0 Q) rest a w

section
variable {P : Program} {cx : Cx} {s : St} {Q : VE → St → Prop}

theorem VW.mono {c : Code} {Q' : VE → St → Prop} (h : VW P cx c s Q) (hq : ∀ e s, Q e s → Q' e s) : VW P cx c s Q' := fun n g0 w0 g a w hE hS =>
  wpIn_mono (h n g0 w0 g a w hE hS) fun _ _ _ ⟨g', s', e', k1, k2, k3, k4⟩ => ⟨g', s', e', k1, k2, k3, hq _ _ k4⟩

theorem vw_skip (h : Q .normal s) : VW P cx .skip s Q := fun _ _ _ g _ _ hE hS => wpIn_skip ⟨g, s, .normal, hE, hS, rfl, h⟩
theorem vw_label {l : Nat} (h : Q .normal s) : VW P cx (.label l) s Q := fun _ _ _ g _ _ hE hS => wpIn_label ⟨g, s, .normal, hE, hS, rfl, h⟩
theorem vw_exit {id : Nat} (h : Q (.exit id) s) : VW P cx (.exit id) s Q := fun _ _ _ g _ _ hE hS => wpIn_exit ⟨g, s, .exit id, hE, hS, rfl, h⟩
theorem vw_goto {l : Nat} (h : Q (.goto l) s) : VW P cx (.goto l) s Q := fun _ _ _ g _ _ hE hS => wpIn_goto ⟨g, s, .goto l, hE, hS, rfl, h⟩
theorem vw_ret (h : Q .ret s) : VW P cx .ret s Q := fun _ _ _ g _ _ hE hS => wpIn_ret ⟨g, s, .ret, hE, hS, rfl, h⟩

def thenV (P : Program) (cx : Cx) (c : Code) (Q : VE → St → Prop) : VE → St → Prop
  | .normal, s => VW P cx c s Q
  | e, s => Q e s
theorem vw_seq {x y : Code} (h : VW P cx x s (thenV P cx y Q)) : VW P cx (.seq x y) s Q := fun n g0 w0 g a w hE hS => by
  refine wpIn_seq (wpIn_mono (h n g0 w0 g a w hE hS) ?_)
  rintro e a' w' ⟨g', s', e', k1, k2, k3, k4⟩
  cases e' with
  | normal => simp only [erel] at k3; subst k3; exact k4 n g0 w0 g' a' w' k1 k2
  | exit id => simp only [erel] at k3; subst k3; exact ⟨g', s', .exit id, k1, k2, rfl, k4⟩
  | goto id => simp only [erel] at k3; subst k3; exact ⟨g', s', .goto id, k1, k2, rfl, k4⟩
  | ret => simp only [erel] at k3; subst k3; exact ⟨g', s', .ret, k1, k2, rfl, k4⟩
  | panic v => obtain ⟨u, rfl, k⟩ := k3; exact ⟨g', s', .panic v, k1, k2, ⟨u, rfl, k⟩, k4⟩
def blockV (id : Nat) (Q : VE → St → Prop) : VE → St → Prop
  | .exit i, s => match Nat.beq i id with
    | true => Q .normal s
    | false => Q (.exit i) s
  | e, s => Q e s
theorem vw_block {id : Nat} {x : Code} (h : VW P cx x s (blockV id Q)) : VW P cx (.block id x) s Q := fun n g0 w0 g a w hE hS => by
  refine wpIn_block (wpIn_mono (h n g0 w0 g a w hE hS) ?_)
  rintro e a' w' ⟨g', s', e', k1, k2, k3, k4⟩
  cases e' with
  | normal => simp only [erel] at k3; subst k3; exact ⟨g', s', .normal, k1, k2, rfl, k4⟩
  | exit i =>
    simp only [erel] at k3; subst k3
    simp only [blockV] at k4
    simp only [Exit.inBlock]
    by_cases h : i = id
    · subst h
      rw [if_pos rfl]
      rw [show Nat.beq i i = true from Nat.beq_refl i] at k4
      exact ⟨g', s', .normal, k1, k2, rfl, k4⟩
    · rw [if_neg h]
      rw [show Nat.beq i id = false from by
        cases hb : Nat.beq i id
        · rfl
        · exact (h (Nat.eq_of_beq_eq_true hb)).elim] at k4
      exact ⟨g', s', .exit i, k1, k2, rfl, k4⟩
  | goto id => simp only [erel] at k3; subst k3; exact ⟨g', s', .goto id, k1, k2, rfl, k4⟩
  | ret => simp only [erel] at k3; subst k3; exact ⟨g', s', .ret, k1, k2, rfl, k4⟩
  | panic v => obtain ⟨u, rfl, k⟩ := k3; exact ⟨g', s', .panic v, k1, k2, ⟨u, rfl, k⟩, k4⟩

/-- pointers to what nobody writes to, out of data -/
def nrmV : V → Option V
  | .d (.pt l) => some (.ep l)
  | v => some v
theorem nrmV_rep {B : Nat} {g : G} {w : World} {v v' : V} (h : nrmV v = some v') {u : Value} (hu : vrep B g w v u) : vrep B g w v' u := by
  unfold nrmV at h
  split at h <;> cases h
  · simp only [vrep, drep] at hu ⊢
    obtain ⟨b, o, cs, e, k1, k2⟩ := hu
    exact ⟨b, o, cs, e, k1.imp fun b hb => hb.1, k2⟩
  · exact hu
/-- an operand's value -/
def evalV (s : St) : Operand → Option V
  | .tmp t => (match lookT t s.tm with
    | some v => nrmV v
    | none => none)
  | .const v => match v with
    | .agg cs => some (.d (.agg (cs.toList.map .lit)))
    | v => some (.d (.lit v))
  | .func f => some (.fn (.func f) [] [])
  | .global _ => none
theorem dreps_lit {B : Nat} {U : Nat → Prop} {w : World} : ∀ {cs : List Value}, dreps B U w (cs.map .lit) cs
  | [] => by simp [dreps]
  | x :: xs => by simp only [List.map_cons, dreps]; exact ⟨x, xs, rfl, (by simp only [drep]), dreps_lit⟩
theorem Sim.eval {g : G} {a : Act} {w : World} (h : Sim cx g a w s) {x : Operand} {v : V} (hv : evalV s x = some v) : vrep cx.B g w v (a.eval x) := by
  cases x with
  | tmp t =>
    simp only [evalV] at hv
    split at hv
    · rename_i v0 h0; exact nrmV_rep hv (h.tm h0)
    · cases hv
  | const c =>
    simp only [evalV] at hv
    simp only [Act.eval]
    split at hv
    · cases hv; simp only [vrep, drep]; exact ⟨_, by simp, dreps_lit⟩
    · cases hv; simp only [vrep, drep]
  | global g => simp [evalV] at hv
  | func f => simp only [evalV, Option.some.injEq] at hv; subst hv; simp only [vrep, vreps, Act.eval]; exact ⟨[], [], rfl, rfl, rfl⟩

theorem vw_cond {c : Operand} {x y : Code} {b : Bool} (hc : evalV s c = some (.d (.lit (.bool b)))) (ht : b = true → VW P cx x s Q) (hf : b = false → VW P cx y s Q) : VW P cx (.cond c x y) s Q := fun n g0 w0 g a w hE hS => by
  have h := hS.eval hc
  simp only [vrep, drep] at h
  cases b with
  | true => exact wpIn_cond_true h (ht rfl n g0 w0 g a w hE hS)
  | false => exact wpIn_cond_false h (hf rfl n g0 w0 g a w hE hS)
theorem vw_condp {c : Operand} {x y : Code} {p : Prop} [Decidable p] (hc : evalV s c = some (.d (.lit (.bool (decide p))))) (ht : p → VW P cx x s Q) (hf : ¬ p → VW P cx y s Q) : VW P cx (.cond c x y) s Q :=
  vw_cond hc (fun h => ht (of_decide_eq_true h)) (fun h => hf (of_decide_eq_false h))
theorem vw_region {id : Nat} {l : List Oper} (h : VL P cx l l s Q) : VW P cx (.region id l.toArray false) s Q := fun n g0 w0 g a w hE hS => wpIn_region_l (h n g0 w0 g a w hE hS)
theorem vl_nil {ops : List Oper} (h : Q .normal s) : VL P cx ops [] s Q := fun _ _ _ g _ _ hE hS => ⟨g, s, .normal, hE, hS, rfl, h⟩

end

end Go.Proofs.Ytjfaihpiohccbaa

namespace Go.Proofs.Ytjfaihpiohccbaa
open Go.RowKit

def aggD : TypeDesc → Bool
  | .struct _ | .array _ _ => true
  | _ => false
def fldD (P : Program) (f : Nat) : TypeDesc → Option (Nat × Nat × Option Bool)
  | .struct fs => (fs[f]?).map fun x => (x.offset, P.cellsOf x.type, (P.underlying x.type).map aggD)
  | _ => none
def arrD : TypeDesc → Option (Nat × TypeId)
  | .array n e => some (n, e)
  | _ => none

/-- struct or array; how many cells; what it is at first -/
class TyI (P : Program) (t : TypeId) (ag : outParam Bool) (sz : outParam Nat) (z : outParam (List Value)) : Prop where
  tag : (P.underlying t).map aggD = some ag
  tsz : (P.info? t).map (fun i => (i.size, i.zero.map (·.cells.toList))) = some (sz, some z)
/-- a field: where, and how many cells -/
class FldI (P : Program) (s f : Nat) (off sz : outParam Nat) (ag : outParam Bool) : Prop where
  at_ : (P.underlying s).bind (fldD P f) = some (off, sz, some ag)
  pos : 0 < sz
class ArrI (P : Program) (t : TypeId) (n : outParam Nat) (e : outParam TypeId) (sz : outParam Nat) : Prop where
  und : (P.underlying t).bind arrD = some (n, e)
  esz : (P.info? e).map (·.size) = some sz
  pos : 0 < sz
class SlI (P : Program) (t : TypeId) (e : outParam TypeId) (sz bytes : outParam Nat) : Prop where
  elem : Elem P t e sz bytes

def ifcD : TypeDesc → Bool
  | .interface _ => true
  | _ => false
class NIfI (P : Program) (t : TypeId) : Prop where
  und : (P.underlying t).map ifcD = some false
class IfcI (P : Program) (t : TypeId) : Prop where
  und : (P.underlying t).map ifcD = some true
class BoolI (P : Program) (t : TypeId) : Prop where
  und : P.underlying t = some .bool
class IntI (P : Program) (t : TypeId) (k : outParam IntKind) : Prop where
  und : P.underlying t = some (.int k)
class StrI (P : Program) (t : TypeId) : Prop where
  und : P.underlying t = some .string

theorem TyI.size {P : Program} {t : TypeId} {ag : Bool} {sz : Nat} {z : List Value} (h : TyI P t ag sz z) : ∃ i zv, P.info? t = some i ∧ i.size = sz ∧ i.zero = some zv ∧ zv.cells.toList = z := by
  obtain ⟨i, h1, h2⟩ := Option.map_eq_some_iff.1 h.tsz
  simp only [Prod.mk.injEq] at h2
  obtain ⟨zv, h3, h4⟩ := Option.map_eq_some_iff.1 h2.2
  exact ⟨i, zv, h1, h2.1, h3, h4⟩
theorem TyI.und {P : Program} {t : TypeId} {ag : Bool} {sz : Nat} {z : List Value} (h : TyI P t ag sz z) : ∃ d, P.underlying t = some d ∧ aggD d = ag := Option.map_eq_some_iff.1 h.tag
theorem FldI.get {P : Program} {s f off sz : Nat} {ag : Bool} (h : FldI P s f off sz ag) : ∃ fs x i, P.underlying s = some (.struct fs) ∧ fs[f]? = some x ∧ x.offset = off ∧ P.info? x.type = some i ∧ i.size = sz ∧ (P.underlying x.type).map aggD = some ag := by
  obtain ⟨d, h1, h2⟩ := Option.bind_eq_some_iff.1 h.at_
  unfold fldD at h2
  split at h2
  · rename_i fs
    obtain ⟨x, h3, h4⟩ := Option.map_eq_some_iff.1 h2
    simp only [Prod.mk.injEq] at h4
    have h5 := h.pos
    have h6 := h4.2.1
    unfold Program.cellsOf at h6
    cases hi : P.info? x.type with
    | none => rw [hi] at h6; simp at h6; omega
    | some i => rw [hi] at h6; exact ⟨fs, x, i, h1, h3, h4.1, hi, by simpa using h6, h4.2.2⟩
  · cases h2
theorem ArrI.get {P : Program} {t n : Nat} {e : TypeId} {sz : Nat} (h : ArrI P t n e sz) : P.underlying t = some (.array n e) ∧ ∃ i, P.info? e = some i ∧ i.size = sz := by
  obtain ⟨d, h1, h2⟩ := Option.bind_eq_some_iff.1 h.und
  refine ⟨?_, Option.map_eq_some_iff.1 h.esz⟩
  unfold arrD at h2
  split at h2
  · cases h2; exact h1
  · cases h2

end Go.Proofs.Ytjfaihpiohccbaa

namespace Go.Proofs.Ytjfaihpiohccbaa
open Go.RowKit

/-- the operation by itself -/
abbrev bare (op : Op) (ty : TypeId) : Oper := ⟨none, op, ty, "", #[], none⟩

/-- it yields this value, and turns nothing -/
def OpQ (P : Program) (cx : Cx) (op : Op) (ty : TypeId) (s : St) (v : V) : Prop :=
  ∀ g a w, Sim cx g a w s → ∃ u, (execOp a.eval (bare op ty)).run P w = .ok (.value u) w ∧ vrep cx.B g w v u
/-- it yields this value, and the log is this one behind it -/
def OpV (P : Program) (cx : Cx) (op : Op) (ty : TypeId) (s : St) (v : V) (st' : List E) (nb' : Nat) : Prop :=
  ∀ g a w, Sim cx g a w s → ∃ u g' w', (execOp a.eval (bare op ty)).run P w = .ok (.value u) w' ∧ Evo cx.B g w g' w' ∧ SimS cx.B g' w' st' ∧ Inv cx.B nb' g' w' ∧ vrep cx.B g' w' v u
/-- it yields none -/
def OpU (P : Program) (cx : Cx) (op : Op) (ty : TypeId) (s : St) (st' : List E) (nb' : Nat) : Prop :=
  ∀ g a w, Sim cx g a w s → ∃ g' w', (execOp a.eval (bare op ty)).run P w = .ok .skip w' ∧ Evo cx.B g w g' w' ∧ SimS cx.B g' w' st' ∧ Inv cx.B nb' g' w'
/-- it panics -/
def OpP (P : Program) (cx : Cx) (op : Op) (ty : TypeId) (s : St) (v : V) : Prop :=
  ∀ g a w, Sim cx g a w s → ∃ u, (execOp a.eval (bare op ty)).run P w = .halt (.panic u) w ∧ vrep cx.B g w v u

/-- the guard says yes -/
def Wd (ops : List Oper) (tm : List (Nat × V)) : Option (Nat × Bool) → Prop
  | none => True
  | some (j, b) => ∃ t, (ops[j]?).bind (·.dst) = some t ∧ lookT t tm = some (.d (.lit (.bool b)))

theorem wd_of {ops : List Oper} {tm : List (Nat × V)} {j : Nat} {b : Bool} {t : Tmp} {v : V} (h1 : (ops[j]?).bind (·.dst) = some t) (h2 : lookT t tm = some v) (h3 : v = .d (.lit (.bool b))) : Wd ops tm (some (j, b)) := ⟨t, h1, by rw [h2, h3]⟩
/-- a guard that says no -/
inductive SkipB (b : Bool) : V → Prop where
  | tf : b = false → SkipB b (.d (.lit (.bool true)))
  | ft : b = true → SkipB b (.d (.lit (.bool false)))
theorem SkipB.of {b : Bool} {v : V} (h : SkipB b v) : ∃ c, v = .d (.lit (.bool c)) ∧ (c == b) = false := by
  cases h with
  | tf h => subst h; exact ⟨true, rfl, rfl⟩
  | ft h => subst h; exact ⟨false, rfl, rfl⟩
def noDefer : Op → Bool
  | .defer _ => false
  | _ => true

theorem DfL.evo {B : Nat} {g g' : G} {w w' : World} (hE : Evo B g w g' w') : ∀ {df : List (FuncId × List V)} {ds : List Deferred}, DfL B g w df ds → DfL B g' w' df ds
  | [], _, h => h
  | (_, _) :: _, _, ⟨us, r, e, h1, h2⟩ => ⟨us, r, e, hE.vreps h1, DfL.evo hE h2⟩
theorem Marks.evo {cx : Cx} {g g' : G} {w w' : World} {ds : List Deferred} (h : Marks cx g w ds) (hE : Evo cx.B g w g' w') : Marks cx g' w' ds := by
  obtain ⟨hm, bs, r, e, hn, h, hr⟩ := h
  refine ⟨fun m h => Nat.le_trans (hm m h) hE.size, bs, r, e, hn, fun b hb => ?_, hr.evo hE⟩
  obtain ⟨h1, h2, h3⟩ := h b hb
  have := hE.blk b (Array.getElem?_eq_some_iff.1 h3).1 h1
  exact ⟨this.1, h2, this.2.trans h3⟩

section
variable {P : Program} {cx : Cx} {s : St} {Q : VE → St → Prop} {ops rest : List Oper}

theorem Wd.wanted {g : G} {a : Act} {w : World} (h : Sim cx g a w s) {o : Oper} (hw : Wd ops s.tm o.guard) : Region.wanted o (yielded ops.toArray a.tmps) = true := by
  unfold Region.wanted
  cases hg : o.guard with
  | none => rfl
  | some p =>
    obtain ⟨j, b⟩ := p
    rw [hg] at hw
    obtain ⟨t, h1, h2⟩ := hw
    have h3 := h.tm h2
    simp only [vrep, drep] at h3
    simp only [yielded, List.getElem?_toArray, h1, Option.bind_some]
    have h4 : a.tmps[t]? = some (.bool b) := by
      cases hq : a.tmps[t]? with
      | none => rw [Array.getD_eq_getD_getElem?, hq] at h3; simp [undef] at h3
      | some x => rw [Array.getD_eq_getD_getElem?, hq] at h3; simp at h3; rw [h3]
    rw [h4]
    simp

theorem Sim.put {g g' : G} {a : Act} {w w' : World} (h : Sim cx g a w s) (hE : Evo cx.B g w g' w') {d : Tmp} {v : V} {u : Value} {st' : List E} {nb' : Nat} (hd : d < cx.N) (hs : SimS cx.B g' w' st') (hi : Inv cx.B nb' g' w') (hv : vrep cx.B g' w' v u) :
    Sim cx g' (a.put (some d) u) w' ⟨(d, v) :: s.tm, st', nb'⟩ := by
  refine ⟨by simp [Act.put, h.size], fun {t x} hx => ?_, hs, hi, h.defers.evo hE⟩
  simp only [lookT] at hx
  simp only [Act.put, Array.getD_eq_getD_getElem?]
  split at hx
  · rename_i hb
    have := Nat.eq_of_beq_eq_true hb
    subst this
    cases hx
    rw [Array.getElem?_setIfInBounds_self_of_lt (by rw [h.size]; exact hd)]
    exact hv
  · rename_i hb
    have hne : d ≠ t := fun e => by subst e; rw [Nat.beq_refl] at hb; cases hb
    rw [Array.getElem?_setIfInBounds_ne hne, ← Array.getD_eq_getD_getElem?]
    exact hE.vrep (h.tm hx)
theorem Sim.same {g g' : G} {a : Act} {w w' : World} (h : Sim cx g a w s) (hE : Evo cx.B g w g' w') {st' : List E} {nb' : Nat} (hs : SimS cx.B g' w' st') (hi : Inv cx.B nb' g' w') : Sim cx g' a w' ⟨s.tm, st', nb'⟩ :=
  ⟨h.size, fun hx => hE.vrep (h.tm hx), hs, hi, h.defers.evo hE⟩

theorem execOp_bare (ρ : Operand → Value) (o : Oper) : execOp ρ o = execOp ρ (bare o.op o.type) := rfl

theorem vl_v {d : Tmp} {op : Op} {ty : TypeId} {pos : String} {af : Array Edge} {gd : Option (Nat × Bool)} {v : V} {st' : List E} {nb' : Nat} (h : OpV P cx op ty s v st' nb') (hw : Wd ops s.tm gd) (hd : Nat.blt d cx.N = true) (hn : noDefer op = true)
    (k : VL P cx ops rest ⟨(d, v) :: s.tm, st', nb'⟩ Q) : VL P cx ops (⟨some d, op, ty, pos, af, gd⟩ :: rest) s Q := fun n g0 w0 g a w hE hS => by
  obtain ⟨u, g', w', hr, h1, h2, h3, h4⟩ := h g a w hS
  simp only [wplIn]
  rw [if_pos (Wd.wanted (o := ⟨some d, op, ty, pos, af, gd⟩) hS hw)]
  refine ⟨fun _ _ => trivial, ?_⟩
  rw [Oper.semAt_plain (FW cx.rd) _ _ (by intro c e; simp only at e; subst e; cases hn), execOp_bare, hr]
  exact k n g0 w0 g' _ w' (hE.trans h1) (hS.put h1 (Nat.le_of_ble_eq_true hd) h2 h3 h4)
theorem vl_q {d : Tmp} {op : Op} {ty : TypeId} {pos : String} {af : Array Edge} {gd : Option (Nat × Bool)} {v : V} (h : OpQ P cx op ty s v) (hw : Wd ops s.tm gd) (hd : Nat.blt d cx.N = true) (hn : noDefer op = true)
    (k : VL P cx ops rest ⟨(d, v) :: s.tm, s.st, s.nb⟩ Q) : VL P cx ops (⟨some d, op, ty, pos, af, gd⟩ :: rest) s Q :=
  vl_v (fun g a w hS => let ⟨u, h1, h2⟩ := h g a w hS; ⟨u, g, w, h1, Evo.refl _ _ _, hS.st, hS.inv, h2⟩) hw hd hn k
theorem vl_u {op : Op} {ty : TypeId} {pos : String} {af : Array Edge} {gd : Option (Nat × Bool)} {st' : List E} {nb' : Nat} (h : OpU P cx op ty s st' nb') (hw : Wd ops s.tm gd) (hn : noDefer op = true)
    (k : VL P cx ops rest ⟨s.tm, st', nb'⟩ Q) : VL P cx ops (⟨none, op, ty, pos, af, gd⟩ :: rest) s Q := fun n g0 w0 g a w hE hS => by
  obtain ⟨g', w', hr, h1, h2, h3⟩ := h g a w hS
  simp only [wplIn]
  rw [if_pos (Wd.wanted (o := ⟨none, op, ty, pos, af, gd⟩) hS hw)]
  refine ⟨fun _ _ => trivial, ?_⟩
  rw [Oper.semAt_plain (FW cx.rd) _ _ (by intro c e; simp only at e; subst e; cases hn), execOp_bare, hr]
  exact k n g0 w0 g' _ w' (hE.trans h1) (hS.same h1 h2 h3)
theorem vl_p {d : Option Tmp} {op : Op} {ty : TypeId} {pos : String} {af : Array Edge} {gd : Option (Nat × Bool)} {v : V} (h : OpP P cx op ty s v) (hw : Wd ops s.tm gd) (hn : noDefer op = true) (k : Q (.panic v) s) :
    VL P cx ops (⟨d, op, ty, pos, af, gd⟩ :: rest) s Q := fun n g0 w0 g a w hE hS => by
  obtain ⟨u, hr, h1⟩ := h g a w hS
  simp only [wplIn]
  rw [if_pos (Wd.wanted (o := ⟨d, op, ty, pos, af, gd⟩) hS hw)]
  refine ⟨fun _ _ => trivial, ?_⟩
  rw [Oper.semAt_plain (FW cx.rd) _ _ (by intro c e; simp only at e; subst e; cases hn), execOp_bare, hr]
  exact ⟨g, s, .panic v, hE, hS, ⟨u, rfl, h1⟩, k⟩
/-- the guard says no -/
theorem vl_skip {d : Tmp} {op : Op} {ty : TypeId} {pos : String} {af : Array Edge} {j : Nat} {b c : Bool} {t : Nat} (h1 : (ops[j]?).bind (·.dst) = some t) (h2 : lookT t s.tm = some (.d (.lit (.bool c)))) (hc : (c == b) = false) (hd : Nat.blt d cx.N = true)
    (k : VL P cx ops rest ⟨(d, .d (.lit undef)) :: s.tm, s.st, s.nb⟩ Q) : VL P cx ops (⟨some d, op, ty, pos, af, some (j, b)⟩ :: rest) s Q := fun n g0 w0 g a w hE hS => by
  have h3 := hS.tm h2
  simp only [vrep, drep] at h3
  have h4 : a.tmps[t]? = some (.bool c) := by
    cases hq : a.tmps[t]? with
    | none => rw [Array.getD_eq_getD_getElem?, hq] at h3; simp [undef] at h3
    | some x => rw [Array.getD_eq_getD_getElem?, hq] at h3; simp at h3; rw [h3]
  have hw : Region.wanted ⟨some d, op, ty, pos, af, some (j, b)⟩ (yielded ops.toArray a.tmps) = false := by
    simp only [Region.wanted, yielded, List.getElem?_toArray, h1, Option.bind_some, h4]
    simpa using hc
  simp only [wplIn]
  rw [if_neg (by rw [hw]; simp)]
  exact ⟨fun _ _ => trivial, k n g0 w0 g _ w hE (hS.put (Evo.refl _ _ _) (Nat.le_of_ble_eq_true hd) hS.st hS.inv (by simp only [vrep, drep]))⟩

/-- the guard's own was not asked for -/
theorem vl_skipu {d : Tmp} {op : Op} {ty : TypeId} {pos : String} {af : Array Edge} {j : Nat} {b : Bool} {t : Nat} (h1 : (ops[j]?).bind (·.dst) = some t) (h2 : lookT t s.tm = some (.d (.lit undef))) (hd : Nat.blt d cx.N = true)
    (k : VL P cx ops rest ⟨(d, .d (.lit undef)) :: s.tm, s.st, s.nb⟩ Q) : VL P cx ops (⟨some d, op, ty, pos, af, some (j, b)⟩ :: rest) s Q := fun n g0 w0 g a w hE hS => by
  have h3 := hS.tm h2
  simp only [vrep, drep] at h3
  have hw : Region.wanted ⟨some d, op, ty, pos, af, some (j, b)⟩ (yielded ops.toArray a.tmps) = false := by
    simp only [Region.wanted, yielded, List.getElem?_toArray, h1, Option.bind_some]
    rw [Array.getD_eq_getD_getElem?] at h3
    cases hq : a.tmps[t]? with
    | none => rfl
    | some x => rw [hq] at h3; simp only [Option.getD_some] at h3; subst h3; rfl
  simp only [wplIn]
  rw [if_neg (by rw [hw]; simp)]
  exact ⟨fun _ _ => trivial, k n g0 w0 g _ w hE (hS.put (Evo.refl _ _ _) (Nat.le_of_ble_eq_true hd) hS.st hS.inv (by simp only [vrep, drep]))⟩

theorem vl_case {t : Nat} {b : Bool} (h : lookT t s.tm = some (.d (.lit (.bool b)))) (h1 : b = true → VL P cx ops rest ⟨(t, .d (.lit (.bool true))) :: s.tm, s.st, s.nb⟩ Q) (h2 : b = false → VL P cx ops rest ⟨(t, .d (.lit (.bool false))) :: s.tm, s.st, s.nb⟩ Q) :
    VL P cx ops rest s Q := fun n g0 w0 g a w hE hS => by
  have key : ∀ c, b = c → Sim cx g a w ⟨(t, .d (.lit (.bool c))) :: s.tm, s.st, s.nb⟩ := fun c hc => by
    refine ⟨hS.size, fun {t' x} hx => ?_, hS.st, hS.inv, hS.defers⟩
    simp only [lookT] at hx
    split at hx
    · rename_i hb
      have := Nat.eq_of_beq_eq_true hb
      subst this
      cases hx
      rw [← hc]; exact hS.tm h
    · exact hS.tm hx
  cases hb : b with
  | true => exact h1 hb n g0 w0 g a w hE (key _ hb)
  | false => exact h2 hb n g0 w0 g a w hE (key _ hb)
theorem vl_casep {t : Nat} {p : Prop} [Decidable p] (h : lookT t s.tm = some (.d (.lit (.bool (decide p))))) (h1 : p → VL P cx ops rest ⟨(t, .d (.lit (.bool true))) :: s.tm, s.st, s.nb⟩ Q) (h2 : ¬ p → VL P cx ops rest ⟨(t, .d (.lit (.bool false))) :: s.tm, s.st, s.nb⟩ Q) :
    VL P cx ops rest s Q := vl_case h (fun e => h1 (of_decide_eq_true e)) (fun e => h2 (of_decide_eq_false e))

/-! ### what only computes -/
theorem ev_of {x : Operand} {v w : V} (h : evalV s x = some v) (hv : v = w) : evalV s x = some w := by rw [h, hv]
theorem q_move {x : Operand} {ty : TypeId} {v : V} (h : evalV s x = some v) : OpQ P cx (.move x) ty s v := fun _ _ _ hS => ⟨_, rfl, hS.eval h⟩
theorem q_assign {x : Operand} {ty : TypeId} {v : V} (h : evalV s x = some v) : OpQ P cx (.assign x) ty s v := fun _ _ _ hS => ⟨_, rfl, hS.eval h⟩
def ifV : Bool → Option V → Option V → Option V
  | true, x, _ => x
  | false, _, y => y
theorem q_pick {c x y : Operand} {ty : TypeId} {b : Bool} {v : V} (hc : evalV s c = some (.d (.lit (.bool b)))) (h : ifV b (evalV s x) (evalV s y) = some v) : OpQ P cx (.pick c x y) ty s v := fun g a w hS => by
  have hc' := hS.eval hc
  simp only [vrep, drep] at hc'
  cases b with
  | true => exact ⟨_, by simp [execOp, hc', asBool], hS.eval h⟩
  | false => exact ⟨_, by simp [execOp, hc', asBool], hS.eval h⟩
theorem q_pickt {c x y : Operand} {ty : TypeId} {v : V} (hc : evalV s c = some (.d (.lit (.bool true)))) (h : evalV s x = some v) : OpQ P cx (.pick c x y) ty s v := q_pick hc h
theorem q_pickf {c x y : Operand} {ty : TypeId} {v : V} (hc : evalV s c = some (.d (.lit (.bool false)))) (h : evalV s y = some v) : OpQ P cx (.pick c x y) ty s v := q_pick hc h
theorem q_bin {op : BinOp} {t yt ty : TypeId} {x y : Operand} {a b u : Value} (hx : evalV s x = some (.d (.lit a))) (hy : evalV s y = some (.d (.lit b))) (hr : ∀ w, (do eqGuard op t x y a b; binOp op t a b : Sem Value).run P w = .ok u w) :
    OpQ P cx (.binOp op t x y yt) ty s (.d (.lit u)) := fun g ac w hS => by
  have h1 := hS.eval hx
  have h2 := hS.eval hy
  simp only [vrep, drep] at h1 h2
  refine ⟨u, ?_, by simp only [vrep, drep]⟩
  have := hr w
  simp only [execOp, h1, h2, Sem.run_bind, Sem.run_pure] at this ⊢
  rw [this]
  rfl
theorem q_un {op : UnOp} {t ty : TypeId} {x : Operand} {a u : Value} (hx : evalV s x = some (.d (.lit a))) (hr : ∀ w, (Op.unary op a).run P w = .ok u w) : OpQ P cx (.unOp op t x) ty s (.d (.lit u)) := fun g ac w hS => by
  have h1 := hS.eval hx
  simp only [vrep, drep] at h1
  refine ⟨u, ?_, by simp only [vrep, drep]⟩
  simp only [execOp, h1, Sem.run_bind, Sem.run_pure, hr w]
  rfl
theorem q_conv {t1 t2 ty : TypeId} {x : Operand} {a u : Value} (hx : evalV s x = some (.d (.lit a))) (hr : ∀ w, (convert t1 t2 a).run P w = .ok u w) : OpQ P cx (.convert t1 t2 x) ty s (.d (.lit u)) := fun g ac w hS => by
  have h1 := hS.eval hx
  simp only [vrep, drep] at h1
  refine ⟨u, ?_, by simp only [vrep, drep]⟩
  simp only [execOp, h1, Sem.run_bind, Sem.run_pure, hr w]
  rfl
end

end Go.Proofs.Ytjfaihpiohccbaa

namespace Go.Proofs.Ytjfaihpiohccbaa
open Go.RowKit

/-- a value of one cell -/
def leafV : V → Bool
  | .d (.lit v) => v.oneCell'
  | .d (.sl _ _ _) | .d (.ifc _ _) | .ptr _ _ | .ep _ | .row _ _ | .rp _ _ _ _ _ | .fn _ _ _ | .ifc _ _ | .sv _ _ _ _ _ | .d (.pt _) | .d (.fn _ _ _) => true
  | _ => false
/-- a value's cells -/
def cellsV : V → Option (List V)
  | .agg l => some l
  | .d (.agg l) => some (l.map .d)
  | v => match leafV v with
    | true => some [v]
    | false => none
def leaves : List V → Bool
  | [] => true
  | v :: l => match leafV v with
    | true => leaves l
    | false => false

section
variable {B : Nat} {g : G} {w : World}
theorem leafV_one {v : V} {u : Value} (h : leafV v = true) (k : vrep B g w v u) : u.oneCell' = true := by
  cases v with
  | d x => cases x with
    | lit v => simp only [vrep, drep] at k; subst k; exact h
    | sl c f l => simp only [vrep, drep] at k; obtain ⟨a, cap, cs, rfl, _⟩ := k; rfl
    | ifc t d => simp only [vrep, drep] at k; obtain ⟨x, rfl, _⟩ := k; rfl
    | agg l => simp [leafV] at h
    | tup l => simp [leafV] at h
    | any => simp [leafV] at h
    | pt l => simp only [vrep, drep] at k; obtain ⟨b, o, cs, rfl, _⟩ := k; rfl
    | fn f a c => simp only [vrep, drep] at k; obtain ⟨xs, ys, rfl, _⟩ := k; rfl
  | agg l => simp [leafV] at h
  | tup l => simp [leafV] at h
  | ptr k' o => simp only [vrep] at k; obtain ⟨b, _, rfl⟩ := k; rfl
  | ep l => simp only [vrep] at k; obtain ⟨b, o, cs, rfl, _⟩ := k; rfl
  | row k' i => simp only [vrep] at k; exact k.2
  | rp k' i sz m j => simp only [vrep] at k; obtain ⟨b, n, c, _, rfl⟩ := k; rfl
  | fn f a c => simp only [vrep] at k; obtain ⟨xs, ys, rfl, _⟩ := k; rfl
  | ifc t x => simp only [vrep] at k; obtain ⟨y, rfl, _⟩ := k; rfl
  | sv k' o n c sz => simp only [vrep] at k; obtain ⟨b, _, rfl, _⟩ := k; rfl
  | yl k' => simp only [vrep] at k; obtain ⟨b, _, rfl⟩ := k; rfl
  | rv k' i n => simp only [vrep] at k; obtain ⟨a, m, c, _, rfl⟩ := k; rfl

theorem leaves_one : ∀ {vs : List V} {us : List Value}, leaves vs = true → vreps B g w vs us → ∀ u ∈ us, u.oneCell' = true
  | [], us, _, h, u, hu => by simp only [vreps] at h; subst h; simp at hu
  | v :: vs, us, hl, h, u, hu => by
    simp only [vreps] at h
    obtain ⟨y, ys, rfl, k1, k2⟩ := h
    simp only [leaves] at hl
    split at hl
    · rename_i h1
      rcases List.mem_cons.1 hu with rfl | hu
      · exact leafV_one h1 k1
      · exact leaves_one hl k2 u hu
    · cases hl
theorem cellsV_rep {v : V} {u : Value} {vs : List V} (h : cellsV v = some vs) (k : vrep B g w v u) : vreps B g w vs u.cells.toList := by
  unfold cellsV at h
  split at h
  · cases h; simp only [vrep] at k; obtain ⟨cs, rfl, k⟩ := k; simpa [Value.cells] using k
  · cases h; simp only [vrep, drep] at k; obtain ⟨cs, rfl, k⟩ := k; simpa [Value.cells] using vreps_d k
  · split at h
    · rename_i h1
      cases h
      have h2 := leafV_one h1 k
      have h3 : u.cells = #[u] := by cases u <;> simp_all [Value.cells, Value.oneCell']
      rw [h3]
      simp only [vreps]
      exact ⟨u, [], rfl, k, rfl⟩
    · cases h

/-- the cells of a variable, known -/
theorem SimS.cells {st : List E} (h : SimS B g w st) {k : Nat} : ∀ {n off : Nat} {vs : List V}, cellsAt k off st (n + 1) = some vs →
    ∃ b rcs ty us, g.bx k = some b ∧ w.heap[b]? = some (.cells rcs ty (0, 0)) ∧ vreps B g w vs us ∧ us.length = n + 1 ∧ ∀ (j : Nat) u, us[j]? = some u → rcs[off + j]? = some u
  | n, off, vs, hv => by
    simp only [cellsAt] at hv
    split at hv
    · cases hv
    · rename_i v hc
      obtain ⟨b, rcs, ty, u, h1, h2, h3, h4⟩ := h.cell hc
      cases n with
      | zero =>
        simp only [cellsAt] at hv
        cases hv
        refine ⟨b, rcs, ty, [u], h1, h2, ?_, rfl, fun j x hj => ?_⟩
        · simp only [vreps]; exact ⟨u, [], rfl, h4, rfl⟩
        · cases j with
          | zero => simp at hj; subst hj; exact h3
          | succ j => simp at hj
      | succ n =>
        split at hv
        · cases hv
        · rename_i vs' hvs
          cases hv
          obtain ⟨b', rcs', ty', us, k1, k2, k3, k4, k5⟩ := SimS.cells h hvs
          rw [h1] at k1; cases k1
          rw [h2] at k2; cases k2
          refine ⟨b, rcs, ty, u :: us, h1, h2, ?_, by simp [k4], fun j x hj => ?_⟩
          · simp only [vreps]; exact ⟨u, us, rfl, h4, k3⟩
          · cases j with
            | zero => simp at hj; subst hj; exact h3
            | succ j => simp at hj; have := k5 j x hj; rwa [show off + 1 + j = off + (j + 1) by omega] at this

/-- one block may turn that a variable, or a row, has -/
theorem Evo.of_grown {nb : Nat} (hi : Inv B nb g w) {w' : World} {x : Nat} (h : w.grownBy w' (some x)) (hx : (∃ k, g.bx k = some x) ∨ ∃ k, g.rb k = some x) : Evo B g w g w' :=
  ⟨h.os, h.tape, h.output, h.size, id, id, fun b hb hp => ⟨hp, h.block b hb (fun e => by cases e; exact hp (.inr hx))⟩, rfl, fun b hb => h.block b (hi.exlt hb) (fun e => by
    cases e
    rcases hx with ⟨k, hk⟩ | ⟨k, hk⟩
    · exact hi.exbx hk hb
    · exact hi.exrb hk hb)⟩
theorem Inv.evo {nb : Nat} (h : Inv B nb g w) {w' : World} (hs : w.heap.size ≤ w'.heap.size) : Inv B nb g w' :=
  ⟨fun e => ⟨Nat.lt_of_lt_of_le (h.bxlt e).1 hs, (h.bxlt e).2⟩, fun e => ⟨Nat.lt_of_lt_of_le (h.rblt e).1 hs, (h.rblt e).2⟩, h.rwlt, h.bxinj, h.rbinj, h.apart, fun e => Nat.lt_of_lt_of_le (h.exlt e) hs, h.exbx, h.exrb, Nat.le_trans h.base hs⟩
theorem ownsRow_grown {w' : World} {x : Option Nat} {e : TypeId} {sz n : Nat} {v : Value} {xs : List Value} (h : w.ownsRow 0 e sz v n xs) (hg : w.grownBy w' x) (hne : ∀ b, v.ownBlock = some b → some b ≠ x) : w'.ownsRow 0 e sz v n xs := by
  refine h.kept hg ?_
  cases hv : v.ownBlock with
  | none => exact .inl rfl
  | some b => exact .inr (hne b hv)
/-- what the log says of others stays -/
theorem SimS.keepRow {st : List E} (h : SimS B g w st) {g' : G} {w' : World} {x : Option Nat} (hE : Evo B g w g' w') (hg : w.grownBy w' x) {k : Nat} (hk : g'.rb k = g.rb k) (hrw : g'.rw k = g.rw k) (hx : ∀ b, g.rb k = some b → some b ≠ x) {o nw : Bool} {ver : Nat} {e : TypeId} {sz : Nat} {l : List (List D)} (hr : rowAt k st = some (o, nw, ver, e, sz, l)) :
    ∃ v xs, g'.rw k ver = some v ∧ drepss B g'.prot w' l xs ∧ ((∀ x ∈ l, x.length = sz) ∧ (∀ u ∈ xs, u.oneCell' = true) ∧ ∀ i v', g'.rw k i = some v' → i ≤ ver) ∧ (nw = true → ∀ b, v.ownBlock = some b → B ≤ b) ∧ ((o = true ∧ w'.ownsRow 0 e sz v l.length xs ∧ g'.rb k = v.ownBlock) ∨ (o = false ∧ g'.rb k = none ∧ drep B g'.prot w' (.sl false nw l) v)) := by
  obtain ⟨v, xs, h1, h2, h3, hn, h4⟩ := h.row hr
  refine ⟨v, xs, hE.rw h1, hE.drepss h2, ⟨h3.1, h3.2.1, by rw [hrw]; exact h3.2.2⟩, hn, ?_⟩
  rcases h4 with ⟨e1, h4, h5⟩ | ⟨e1, h4, h5⟩
  · exact .inl ⟨e1, ownsRow_grown h4 hg (fun b hb => hx b (h5.trans hb)), hk.trans h5⟩
  · exact .inr ⟨e1, hk.trans h4, hE.drep h5⟩
end

section
variable {P : Program} {cx : Cx} {s : St} {Q : VE → St → Prop} {ops rest : List Oper}

theorem run_loadVar_leaf {w : World} {t : TypeId} {sz : Nat} {z : List Value} [hT : TyI P t false sz z] {a : Addr} {u : Value} (h : w.cell? a = some u) : (loadVar t a).run P w = .ok u w := by
  obtain ⟨d, h1, h2⟩ := hT.und
  have hagg : (isAgg t).run P w = .ok false w := by
    unfold isAgg
    rw [Sem.run_bind, run_underlying h1 w]
    cases d <;> simp_all [aggD]
  simp [loadVar, Sem.run_bind, hagg, h]
theorem run_loadVar_agg {w : World} {t : TypeId} {sz : Nat} {z : List Value} [hT : TyI P t true sz z] {b o : Nat} {us : List Value} (hl : us.length = sz) (h : ∀ (j : Nat) u, us[j]? = some u → w.cell? ⟨b, o + j, none⟩ = some u) : (loadVar t ⟨b, o, none⟩).run P w = .ok (.agg us.toArray) w := by
  obtain ⟨d, h1, h2⟩ := hT.und
  obtain ⟨i, zv, h3, h4, _, _⟩ := hT.size
  refine run_loadVar_mid w b o t us d h h1 ?_ (by rw [h3]; simp [h4, hl])
  cases d <;> simp_all [aggD]

/-- loads of variables -/
theorem q_load {t ty : TypeId} {x : Operand} {k off sz : Nat} {z : List Value} {v : V} [hT : TyI P t false sz z] (hx : evalV s x = some (.ptr k off)) (hc : cellAt k off s.st = some v) : OpQ P cx (.load t x) ty s v := fun g a w hS => by
  have h1 := hS.eval hx
  simp only [vrep] at h1
  obtain ⟨b, h1, h2⟩ := h1
  obtain ⟨b', rcs, ty', u, k1, k2, k3, k4⟩ := hS.st.cell hc
  rw [h1] at k1; cases k1
  refine ⟨u, ?_, k4⟩
  have := run_loadVar_leaf (P := P) (t := t) (sz := sz) (z := z) (w := w) (a := ⟨b, off, none⟩) (u := u) (by rw [cell_of_row w b off rcs ty' (0, 0) k2]; exact k3)
  simp [execOp, h2, Instr.loadAt, Instr.sureAddr, this]
theorem q_loads {t ty : TypeId} {x : Operand} {k off sz : Nat} {z : List Value} {vs : List V} [hT : TyI P t true (sz + 1) z] (hx : evalV s x = some (.ptr k off)) (hc : cellsAt k off s.st (sz + 1) = some vs) : OpQ P cx (.load t x) ty s (.agg vs) := fun g a w hS => by
  have h1 := hS.eval hx
  simp only [vrep] at h1
  obtain ⟨b, h1, h2⟩ := h1
  obtain ⟨b', rcs, ty', us, k1, k2, k3, k4, k5⟩ := hS.st.cells hc
  rw [h1] at k1; cases k1
  refine ⟨.agg us.toArray, ?_, by simp only [vrep]; exact ⟨us, rfl, k3⟩⟩
  have := run_loadVar_agg (P := P) (t := t) (sz := sz + 1) (z := z) (w := w) (b := b) (o := off) (us := us) k4 (fun j u hj => by rw [cell_of_row w b _ rcs ty' (0, 0) k2]; exact k5 j u hj)
  simp [execOp, h2, Instr.loadAt, Instr.sureAddr, this]
/-- loads of what nobody writes to -/
theorem q_loade {t ty : TypeId} {x : Operand} {sz : Nat} {z : List Value} {d : D} {l : List D} [hT : TyI P t false sz z] (hx : evalV s x = some (.ep l)) (hl : l[0]? = some d) : OpQ P cx (.load t x) ty s (.d d) := fun g a w hS => by
  have h1 := hS.eval hx
  simp only [vrep] at h1
  obtain ⟨b, o, cs, h1, h2, h3⟩ := h1
  obtain ⟨u, k1, k2⟩ := dreps_get h3 hl
  obtain ⟨b', o', e, _, hc⟩ := h2 0 u k1
  cases e
  refine ⟨u, ?_, by simp only [vrep]; exact k2⟩
  have := run_loadVar_leaf (P := P) (t := t) (sz := sz) (z := z) (w := w) (a := ⟨b, o, none⟩) (u := u) hc
  simp [execOp, h1, Instr.loadAt, Instr.sureAddr, this]
theorem q_loades {t ty : TypeId} {x : Operand} {sz : Nat} {z : List Value} {l : List D} [hT : TyI P t true sz z] (hx : evalV s x = some (.ep l)) (hl : l.length = sz) : OpQ P cx (.load t x) ty s (.d (.agg l)) := fun g a w hS => by
  have h1 := hS.eval hx
  simp only [vrep] at h1
  obtain ⟨b, o, cs, h1, h2, h3⟩ := h1
  refine ⟨.agg cs.toArray, ?_, by simp only [vrep, drep]; exact ⟨cs, rfl, h3⟩⟩
  have := run_loadVar_agg (P := P) (t := t) (sz := sz) (z := z) (w := w) (b := b) (o := o) (us := cs) (by rw [dreps_len h3, hl]) (fun j u hj => by
    obtain ⟨b', o', e, _, hc⟩ := h2 j u hj
    cases e; exact hc)
  simp [execOp, h1, Instr.loadAt, Instr.sureAddr, this]

/-- the address of a field -/
theorem run_fieldAt {w : World} {sT f off sz : Nat} {ag : Bool} [h : FldI P sT f off sz ag] (b o : Nat) : (Instr.fieldAt sT (.pointer (some ⟨b, o, none⟩)) f).run P w = .ok (.pointer (some ⟨b, o + off, none⟩)) w := by
  obtain ⟨fs, x, i, h1, h2, h3, h4, h5, _⟩ := h.get
  have hp := h.pos
  have hadd : (⟨b, o, none⟩ : Addr).add off = ⟨b, o + off, none⟩ := by unfold Addr.add; split <;> simp_all
  have hsz : (sizeOf x.type).run P w = .ok sz w := by simp [sizeOf, typeInfo, h4, h5]
  simp [Instr.fieldAt, run_underlying h1 w, h2, Instr.sureAddr, fieldPlace, hsz, h3, hadd, show ¬ sz = 0 by omega]
theorem q_fldp {t ty : TypeId} {x : Operand} {f k o off sz : Nat} {ag : Bool} [FldI P t f off sz ag] (hx : evalV s x = some (.ptr k o)) : OpQ P cx (.fieldAddr t x f) ty s (.ptr k (o + off)) := fun g a w hS => by
  have h1 := hS.eval hx
  simp only [vrep] at h1
  obtain ⟨b, h1, h2⟩ := h1
  exact ⟨.pointer (some ⟨b, o + off, none⟩), by simp [execOp, h2, run_fieldAt (P := P) (sT := t) (f := f) (off := off) (sz := sz) (ag := ag) (w := w)], by simp only [vrep]; exact ⟨b, h1, rfl⟩⟩
theorem q_flde {t ty : TypeId} {x : Operand} {f off sz : Nat} {ag : Bool} {l : List D} [FldI P t f off sz ag] (hx : evalV s x = some (.ep l)) : OpQ P cx (.fieldAddr t x f) ty s (.ep (l.drop off)) := fun g a w hS => by
  have h1 := hS.eval hx
  simp only [vrep] at h1
  obtain ⟨b, o, cs, h1, h2, h3⟩ := h1
  refine ⟨.pointer (some ⟨b, o + off, none⟩), by simp [execOp, h1, run_fieldAt (P := P) (sT := t) (f := f) (off := off) (sz := sz) (ag := ag) (w := w)], ?_⟩
  simp only [vrep]
  refine ⟨b, o + off, cs.drop off, rfl, fun j u hj => ?_, ?_⟩
  · rw [List.getElem?_drop] at hj
    obtain ⟨b', o', e, hp, hc⟩ := h2 _ u hj
    cases e
    exact ⟨b, o + off, rfl, hp, by rw [Nat.add_assoc]; exact hc⟩
  · refine dreps_mk (by simp [dreps_len h3]) fun i x y hx hy => ?_
    rw [List.getElem?_drop] at hx hy
    obtain ⟨y', e, k⟩ := dreps_get h3 hx
    rw [hy] at e; cases e; exact k
theorem q_fldr {t ty : TypeId} {x : Operand} {f k ver sz' i j off sz : Nat} {ag : Bool} [FldI P t f off sz ag] (hx : evalV s x = some (.rp k ver sz' i j)) : OpQ P cx (.fieldAddr t x f) ty s (.rp k ver sz' i (j + off)) := fun g a w hS => by
  have h1 := hS.eval hx
  simp only [vrep] at h1
  obtain ⟨b, n, c, h1, h2⟩ := h1
  exact ⟨.pointer (some ⟨b, i * sz' + j + off, none⟩), by simp [execOp, h2, run_fieldAt (P := P) (sT := t) (f := f) (off := off) (sz := sz) (ag := ag) (w := w)], by simp only [vrep]; exact ⟨b, n, c, h1, by rw [Nat.add_assoc]⟩⟩

/-- nilCheck of what is there -/
theorem q_nilp {ty : TypeId} {x : Operand} {k o : Nat} (hx : evalV s x = some (.ptr k o)) : OpQ P cx (.nilCheck x) ty s (.ptr k o) := fun g a w hS => by
  have h1 := hS.eval hx
  have h0 := h1
  simp only [vrep] at h1
  obtain ⟨b, h1, h2⟩ := h1
  exact ⟨a.eval x, by simp [execOp, h2], h0⟩
theorem q_nile {ty : TypeId} {x : Operand} {l : List D} (hx : evalV s x = some (.ep l)) : OpQ P cx (.nilCheck x) ty s (.ep l) := fun g a w hS => by
  have h1 := hS.eval hx
  have h0 := h1
  simp only [vrep] at h1
  obtain ⟨b, o, cs, h1, h2⟩ := h1
  exact ⟨a.eval x, by simp [execOp, h1], h0⟩
theorem q_nilr {ty : TypeId} {x : Operand} {k ver sz i j : Nat} (hx : evalV s x = some (.rp k ver sz i j)) : OpQ P cx (.nilCheck x) ty s (.rp k ver sz i j) := fun g a w hS => by
  have h1 := hS.eval hx
  have h0 := h1
  simp only [vrep] at h1
  obtain ⟨b, n, c, h1, h2⟩ := h1
  exact ⟨a.eval x, by simp [execOp, h2], h0⟩
theorem q_nilf {ty : TypeId} {x : Operand} {f : FuncId} {fi ca : List V} (hx : evalV s x = some (.fn (.func f) fi ca)) : OpQ P cx (.nilCheck x) ty s (.fn (.func f) fi ca) := fun g a w hS => by
  have h1 := hS.eval hx
  have h0 := h1
  simp only [vrep] at h1
  obtain ⟨xs, ys, h1, h2⟩ := h1
  exact ⟨a.eval x, by simp [execOp, h1], h0⟩

/-- a store: the cells of a value, to cells of a variable -/
theorem run_storeVar {w : World} {t : TypeId} {ag : Bool} {sz : Nat} {z : List Value} [hT : TyI P t ag sz z] {b o : Nat} {rcs : Array Value} {ty : TypeId} {v : Value} (hb : w.heap[b]? = some (.cells rcs ty (0, 0))) (hl : v.cells.toList.length = sz) (ho : o + sz ≤ rcs.size) (h1 : ∀ u ∈ v.cells.toList, u.oneCell' = true) :
    (storeVar t ⟨b, o, none⟩ v).run P w = .ok () (w.setRow b (rcs.toList.take o ++ v.cells.toList ++ rcs.toList.drop (o + sz)).toArray) := by
  obtain ⟨i, zv, h3, h4, _, _⟩ := hT.size
  have h := run_storeCells_at (P := P) b o ty v.cells.toList 0 rcs w hb (by simp only [Nat.add_zero]; omega) h1
  simp only [Nat.add_zero, hl] at h
  have hs : v.cells.size = i.size := by rw [h4, ← hl]; simp
  simp [storeVar, sizeOf, typeInfo, h3, hs, h]
theorem grownBy_setRow (w : World) (b : Nat) (cs : Array Value) : w.grownBy (w.setRow b cs) (some b) :=
  ⟨rfl, rfl, rfl, by simp, fun k _ hk => setRow_other w b k cs (fun e => hk (by rw [e]))⟩

theorem store_core {t ty : TypeId} {x y : Operand} {k off sz : Nat} {ag : Bool} {z : List Value} {v : V} {vs old : List V} [hT : TyI P t ag (sz + 1) z] (hx : evalV s x = some (.ptr k off)) (hy : evalV s y = some v) (hv : cellsV v = some vs) (hl : vs.length = sz + 1) (h1 : leaves vs = true) (hold : cellsAt k off s.st (sz + 1) = some old) {g : G} {a : Act} {w : World} (hS : Sim cx g a w s) :
    ∃ w', (execOp a.eval (bare (.store t x y) ty)).run P w = .ok .skip w' ∧ Evo cx.B g w g w' ∧ Inv cx.B s.nb g w' ∧ ∀ st2, SimS cx.B g w st2 → SimS cx.B g w' (.c k off vs :: st2) := by
  have hx' := hS.eval hx
  have hy' := hS.eval hy
  simp only [vrep] at hx'
  obtain ⟨b, hb, hx'⟩ := hx'
  have hus := cellsV_rep hv hy'
  have hlen := vreps_len hus
  obtain ⟨b', rcs, ty', us0, k1, k2, k3, k4, k5⟩ := hS.st.cells hold
  rw [hb] at k1; cases k1
  have hroom : off + (sz + 1) ≤ rcs.size := by
    have := k5 sz (us0[sz]'(by omega)) (by simp)
    have := (Array.getElem?_eq_some_iff.1 this).1
    omega
  have hrun := run_storeVar (P := P) (t := t) (w := w) (b := b) (o := off) (rcs := rcs) (v := a.eval y) k2 (by rw [hlen, hl]) hroom (leaves_one h1 hus)
  have hg := grownBy_setRow w b (rcs.toList.take off ++ (a.eval y).cells.toList ++ rcs.toList.drop (off + (sz + 1))).toArray
  have hE := Evo.of_grown (B := cx.B) hS.inv hg (.inl ⟨k, hb⟩)
  refine ⟨_, by simp [execOp, hx', Instr.storeAt, Instr.sureAddr, hrun], hE, hS.inv.evo (by simp), fun st2 hs2 => ⟨fun {k' o' x} hc => ?_, fun {k' o nw ver e sz' l} hr => ?_, fun {k' r T tm0} hl => ?_⟩⟩
  · have hnew := setRow_heap w b rcs (rcs.toList.take off ++ (a.eval y).cells.toList ++ rcs.toList.drop (off + (sz + 1))).toArray ty' (0, 0) k2
    have hbase : cellAt k' o' st2 = some x → (k' = k → o' < off ∨ off + (sz + 1) ≤ o') → ∃ b1 rcs1 ty1 u, g.bx k' = some b1 ∧ (w.setRow b (rcs.toList.take off ++ (a.eval y).cells.toList ++ rcs.toList.drop (off + (sz + 1))).toArray).heap[b1]? = some (.cells rcs1 ty1 (0, 0)) ∧ rcs1[o']? = some u ∧ vrep cx.B g (w.setRow b (rcs.toList.take off ++ (a.eval y).cells.toList ++ rcs.toList.drop (off + (sz + 1))).toArray) x u := by
      intro hc0 hout
      obtain ⟨b1, rcs1, ty1, u, m1, m2, m3, m4⟩ := hs2.cell hc0
      by_cases e : k' = k
      · subst e
        rw [hb] at m1; cases m1
        rw [k2] at m2; cases m2
        refine ⟨b, _, _, u, hb, hnew, ?_, hE.vrep m4⟩
        rcases hout rfl with h | h
        · rw [List.getElem?_toArray, List.append_assoc, List.getElem?_append_left (by simp; omega), List.getElem?_take, if_pos h]; simpa using m3
        · rw [List.getElem?_toArray, List.getElem?_append_right (by simp [hlen, hl]; omega), List.getElem?_drop]
          rw [show off + (sz + 1) + (o' - (rcs.toList.take off ++ (a.eval y).cells.toList).length) = o' by rw [List.length_append, List.length_take, hlen, hl]; simp; omega]
          simpa using m3
      · exact ⟨b1, rcs1, ty1, u, m1, (setRow_other w b b1 _ (fun e2 => e (hS.inv.bxinj m1 (e2 ▸ hb)))).trans m2, m3, hE.vrep m4⟩
    simp only [cellAt] at hc
    split at hc
    · rename_i hk
      have := Nat.eq_of_beq_eq_true hk
      subst this
      split at hc
      · rename_i ho
        have ho := Nat.le_of_ble_eq_true ho
        split at hc
        · rename_i v' hv'
          cases hc
          obtain ⟨u, m1, m2⟩ := vreps_get hus hv'
          refine ⟨b, _, _, u, hb, hnew, ?_, hE.vrep m2⟩
          have hj := (List.getElem?_eq_some_iff.1 hv').1
          rw [List.getElem?_toArray, List.append_assoc, List.getElem?_append_right (by simp; omega), List.length_take, List.getElem?_append_left (by simp [hlen]; omega)]
          rw [show o' - min off rcs.toList.length = o' - off by simp; omega]
          exact m1
        · rename_i hv'
          have := List.getElem?_eq_none_iff.1 hv'
          exact hbase hc fun _ => .inr (by omega)
      · rename_i ho
        exact hbase hc fun _ => .inl (by
          rcases Nat.lt_or_ge o' off with h | h
          · exact h
          · have := Nat.ble_eq_true_of_le h; simp_all)
    · rename_i hk
      exact hbase hc fun e => by subst e; rw [Nat.beq_refl] at hk; cases hk
  · simp only [rowAt] at hr
    exact hs2.keepRow hE hg rfl rfl (fun b2 hb2 e => by cases e; exact hS.inv.apart hb hb2) hr
  · simp only [loopAt] at hl
    obtain ⟨h1, h2⟩ := hs2.loop hl
    refine ⟨fun lp e => let ⟨b2, m1, m2⟩ := h1 lp e; ⟨b2, m1, (hg.block b2 (hS.inv.bxlt m1).1 fun e => ?_).trans m2⟩, fun ht => hE.vrep (h2 ht)⟩
    cases e; rw [k2] at m2; cases m2

/-! ### new variables -/
theorem u_store {t ty : TypeId} {x y : Operand} {k off sz : Nat} {ag : Bool} {z : List Value} {v : V} {vs old : List V} [hT : TyI P t ag (sz + 1) z] (hx : evalV s x = some (.ptr k off)) (hy : evalV s y = some v) (hv : cellsV v = some vs) (hl : vs.length = sz + 1) (h1 : leaves vs = true) (hold : cellsAt k off s.st (sz + 1) = some old) :
    OpU P cx (.store t x y) ty s (.c k off vs :: s.st) s.nb := fun g a w hS => by
  obtain ⟨w', h1, h2, h3, h4⟩ := store_core (hT := hT) hx hy hv hl h1 hold hS
  exact ⟨g, w', h1, h2, h4 _ hS.st, h3⟩
/-- the name is not in use -/
def Free (g : G) (k : Nat) : Prop := g.bx k = none ∧ g.rb k = none ∧ ∀ i, g.rw k i = none
theorem Inv.free {B nb : Nat} {g : G} {w : World} (h : Inv B nb g w) : Free g nb := by
  refine ⟨?_, ?_, fun i => ?_⟩
  · cases hq : g.bx nb with
    | none => rfl
    | some b => exact absurd (h.bxlt hq).2 (Nat.lt_irrefl _)
  · cases hq : g.rb nb with
    | none => rfl
    | some b => exact absurd (h.rblt hq).2 (Nat.lt_irrefl _)
  · cases hq : g.rw nb i with
    | none => rfl
    | some b => exact absurd (h.rwlt hq) (Nat.lt_irrefl _)
theorem Inv.up {B nb nb' : Nat} {g : G} {w : World} (h : Inv B nb g w) (hn : nb ≤ nb') : Inv B nb' g w :=
  ⟨fun e => ⟨(h.bxlt e).1, Nat.lt_of_lt_of_le (h.bxlt e).2 hn⟩, fun e => ⟨(h.rblt e).1, Nat.lt_of_lt_of_le (h.rblt e).2 hn⟩, fun e => Nat.lt_of_lt_of_le (h.rwlt e) hn, h.bxinj, h.rbinj, h.apart, h.exlt, h.exbx, h.exrb, h.base⟩
/-- what is new has that name; all else is as it was -/
structure New (B : Nat) (g : G) (w : World) (g' : G) (w' : World) (k : Nat) : Prop where
  evo : Evo B g w g' w'
  keep : ∀ b, b < w.heap.size → w'.heap[b]? = w.heap[b]?
  same : ∀ i, i ≠ k → g'.bx i = g.bx i ∧ g'.rb i = g.rb i ∧ g'.rw i = g.rw i
theorem SimS.new {B nb : Nat} {g g' : G} {w w' : World} {k : Nat} (h : New B g w g' w' k) (hi : Inv B nb g w) (hf : Free g k) {st : List E} (hs : SimS B g w st) : SimS B g' w' st := by
  refine ⟨fun {i o x} hc => ?_, fun {i o nw ver e sz l} hr => ?_, fun {i r T tm0} hl => ?_⟩
  · obtain ⟨b, rcs, ty, u, m1, m2, m3, m4⟩ := hs.cell hc
    exact ⟨b, rcs, ty, u, h.evo.bx m1, (h.keep b (hi.bxlt m1).1).trans m2, m3, h.evo.vrep m4⟩
  · obtain ⟨v, xs, r1, _⟩ := hs.row hr
    have hne : i ≠ k := fun e => by subst e; rw [hf.2.2] at r1; cases r1
    exact hs.keepRow h.evo (x := none) ⟨h.evo.os, h.evo.tape, h.evo.output, h.evo.size, fun b hb _ => h.keep b hb⟩ (h.same i hne).2.1 (h.same i hne).2.2 (by simp) hr
  · obtain ⟨h1, h2⟩ := hs.loop hl
    exact ⟨fun lp e => let ⟨b, m1, m2⟩ := h1 lp e; ⟨b, h.evo.bx m1, (h.keep b (hi.bxlt m1).1).trans m2⟩, fun ht => h.evo.vrep (h2 ht)⟩
theorem SimS.cons {B : Nat} {g : G} {w : World} {e0 : E} {st : List E} (h1 : SimS B g w [e0]) (h2 : SimS B g w st) : SimS B g w (e0 :: st) := by
  refine ⟨fun {i o x} hc => ?_, fun {i o nw ver e sz l} hr => ?_, fun {i r T tm0} hl => ?_⟩
  · cases e0 with
    | c k o' vs =>
      have h1c := fun v => h1.cell (k := i) (off := o) (v := v)
      simp only [cellAt] at hc h1c
      split at hc
      · rename_i hk
        split at hc
        · rename_i ho
          split at hc
          · rename_i v hv
            cases hc
            refine h1c x ?_
            simp [hk, ho, hv]
          · exact h2.cell hc
        · exact h2.cell hc
      · exact h2.cell hc
    | r _ _ _ _ _ _ _ => simp only [cellAt] at hc; exact h2.cell hc
    | y _ _ _ _ => simp only [cellAt] at hc; exact h2.cell hc
  · cases e0 with
    | c k o' vs => simp only [rowAt] at hr; exact h2.row hr
    | y _ _ _ _ => simp only [rowAt] at hr; exact h2.row hr
    | r _ _ k' _ _ _ _ =>
      have h1c := fun y => h1.row (k := i) (o := o) (nw := nw) (ver := ver) (e := y) (sz := sz) (l := l)
      simp only [rowAt] at hr h1c
      split at hr
      · rename_i hk
        refine h1c _ ?_
        simp [hk]
        simpa using hr
      · exact h2.row hr
  · cases e0 with
    | c k o' vs => simp only [loopAt] at hl; exact h2.loop hl
    | r _ _ _ _ _ _ _ => simp only [loopAt] at hl; exact h2.loop hl
    | y k' r' T' tm' =>
      have h1c := fun y => h1.loop (k := i) (r := r) (T := T) (tm := y)
      simp only [loopAt] at hl h1c
      split at hl
      · rename_i hk
        refine h1c _ ?_
        simp [hk]
        simpa using hl
      · exact h2.loop hl
theorem SimS.nil {B : Nat} {g : G} {w : World} : SimS B g w [] := ⟨fun h => by simp [cellAt] at h, fun h => by simp [rowAt] at h, fun h => by simp [loopAt] at h⟩
def G.addBx (g : G) (k b : Nat) : G := ⟨g.ex, fun i => if i = k then some b else g.bx i, g.rb, g.rw⟩
theorem new_bo {B : Nat} {g : G} {w : World} {nb k : Nat} (hi : Inv B nb g w) (hf : Free g k) (hk : k < nb) (o : Obj) :
    New B g w (g.addBx k w.heap.size) (w.alloc o) k ∧ Inv B nb (g.addBx k w.heap.size) (w.alloc o) := by
  have hne : ∀ {i b}, g.bx i = some b → i ≠ k := fun h e => by subst e; rw [hf.1] at h; cases h
  have hbx : ∀ {i b}, g.bx i = some b → (g.addBx k w.heap.size).bx i = some b := fun {i b} h => by simp only [G.addBx]; rw [if_neg (hne h)]; exact h
  have hE : Evo B g w (g.addBx k w.heap.size) (w.alloc o) := ⟨rfl, rfl, rfl, by simp, hbx, id, fun b hb hp => ⟨fun ho => by
    rcases ho with ho | ⟨i, hk⟩ | ⟨i, hk⟩
    · exact hp (.inl ho)
    · simp only [G.addBx] at hk
      split at hk
      · cases hk; omega
      · exact hp (.inr (.inl ⟨i, hk⟩))
    · exact hp (.inr (.inr ⟨i, hk⟩)), Below.heap_alloc w _ b hb⟩, rfl, fun b hb => Below.heap_alloc w _ b (hi.exlt hb)⟩
  refine ⟨⟨hE, fun b hb => Below.heap_alloc w _ b hb, fun i hne => ⟨by simp [G.addBx, hne], rfl, rfl⟩⟩, ⟨fun {i b} h => ?_, fun {i b} h => ?_, fun h => hi.rwlt h, fun {i i' b} h h' => ?_, hi.rbinj, fun {i i' b} h h' => ?_, fun h => by have := hi.exlt h; simp; omega, fun {i b} h he => ?_, hi.exrb, by have := hi.base; simp; omega⟩⟩
  · simp only [G.addBx] at h
    split at h
    · cases h; simp; omega
    · have := hi.bxlt h; simp; omega
  · have := hi.rblt h; simp; omega
  · simp only [G.addBx] at h h'
    split at h <;> split at h'
    · omega
    · cases h; have := (hi.bxlt h').1; omega
    · cases h'; have := (hi.bxlt h).1; omega
    · exact hi.bxinj h h'
  · simp only [G.addBx] at h
    split at h
    · cases h; have := (hi.rblt h').1; omega
    · exact hi.apart h h'
  · simp only [G.addBx] at h
    split at h
    · cases h; exact absurd (hi.exlt he) (Nat.lt_irrefl _)
    · exact hi.exbx h he
theorem new_bx {B : Nat} {g : G} {w : World} {nb k : Nat} (hi : Inv B nb g w) (hf : Free g k) (hk : k < nb) (cs : Array Value) (t : TypeId) (vs : List V) (hv : vreps B g w vs cs.toList) :
    New B g w (g.addBx k w.heap.size) (w.alloc (.cells cs t)) k ∧ SimS B (g.addBx k w.heap.size) (w.alloc (.cells cs t)) [.c k 0 vs] ∧ Inv B nb (g.addBx k w.heap.size) (w.alloc (.cells cs t)) := by
  obtain ⟨hN, hI⟩ := new_bo hi hf hk (.cells cs t)
  refine ⟨hN, ⟨fun {i o x} hc => ?_, fun {i o nw ver e sz l} hr => by simp [rowAt] at hr, fun h => by simp [loopAt] at h⟩, hI⟩
  simp only [cellAt] at hc
  split at hc
  · rename_i hk
    have := Nat.eq_of_beq_eq_true hk
    subst this
    split at hc
    · split at hc
      · rename_i v' hv'
        cases hc
        obtain ⟨u, m1, m2⟩ := vreps_get hv hv'
        exact ⟨w.heap.size, cs, t, u, by simp [G.addBx], heap_alloc_new w _, by simpa using m1, hN.evo.vrep m2⟩
      · cases hc
    · cases hc
  · cases hc

/-- it yields this value, and makes what has that name -/
def OpR (P : Program) (cx : Cx) (op : Op) (ty : TypeId) (tm : List (Nat × V)) (st : List E) (v : V) (k : Nat) (e : E) : Prop :=
  ∀ nb g a w, k < nb → Free g k → Sim cx g a w ⟨tm, st, nb⟩ → ∃ u g' w', (execOp a.eval (bare op ty)).run P w = .ok (.value u) w' ∧ New cx.B g w g' w' k ∧ SimS cx.B g' w' [e] ∧ Inv cx.B nb g' w' ∧ vrep cx.B g' w' v u
theorem OpR.v {P : Program} {cx : Cx} {op : Op} {ty : TypeId} {tm : List (Nat × V)} {st : List E} {nb : Nat} {v : V} {e : E} (h : OpR P cx op ty tm st v nb e) : OpV P cx op ty ⟨tm, st, nb⟩ v (e :: st) (nb + 1) := fun g a w hS => by
  have hi := hS.inv.up (Nat.le_succ nb)
  obtain ⟨u, g', w', h1, h2, h3, h4, h5⟩ := h (nb + 1) g a w (Nat.lt_succ_self _) hS.inv.free ⟨hS.size, hS.tm, hS.st, hi, hS.defers⟩
  exact ⟨u, g', w', h1, h2.evo, h3.cons (hS.st.new h2 hi hS.inv.free), h4, h5⟩

theorem vreps_lits {B : Nat} {g : G} {w : World} : ∀ {cs : List Value}, vreps B g w (cs.map fun x => .d (.lit x)) cs
  | [] => by simp [vreps]
  | x :: xs => by simp only [List.map_cons, vreps]; exact ⟨x, xs, rfl, (by simp only [vrep, drep]), vreps_lits⟩
theorem r_alloc {t ty : TypeId} {ag : Bool} {sz k : Nat} {z : List Value} {tm : List (Nat × V)} {st : List E} [hT : TyI P t ag sz z] : OpR P cx (.alloc t) ty tm st (.ptr k 0) k (.c k 0 (z.map fun x => .d (.lit x))) := fun nb g a w hk hf hS => by
  obtain ⟨i, zv, h1, h2, h3, h4⟩ := hT.size
  obtain ⟨k1, k2, k3⟩ := new_bx hS.inv hf hk zv.cells t (z.map fun x => .d (.lit x)) (by rw [h4]; exact vreps_lits)
  refine ⟨.pointer (some ⟨w.heap.size, 0, none⟩), _, _, ?_, k1, k2, k3, by simp only [vrep]; exact ⟨w.heap.size, by simp [G.addBx], rfl⟩⟩
  simp [execOp, Instr.alloc, zeroValue, typeInfo, h1, h3, newVar, newRow]
theorem r_box {t ty : TypeId} {x : Operand} {v : V} {vs : List V} {tm : List (Nat × V)} {st : List E} {k : Nat} (hx : evalV ⟨tm, st, 0⟩ x = some v) (hv : cellsV v = some vs) : OpR P cx (.box t x) ty tm st (.ptr k 0) k (.c k 0 vs) := fun nb g a w hk hf hS => by
  have hx' : evalV ⟨tm, st, nb⟩ x = some v := by cases x <;> exact hx
  obtain ⟨k1, k2, k3⟩ := new_bx hS.inv hf hk (a.eval x).cells t vs (cellsV_rep hv (hS.eval hx'))
  refine ⟨.pointer (some ⟨w.heap.size, 0, none⟩), _, _, ?_, k1, k2, k3, by simp only [vrep]; exact ⟨w.heap.size, by simp [G.addBx], rfl⟩⟩
  simp [execOp, Instr.box, newVar, newRow]
end

end Go.Proofs.Ytjfaihpiohccbaa

namespace Go.Proofs.Ytjfaihpiohccbaa
open Go.RowKit

/-- what a function answers -/
inductive R where
  | ret (d : D)
  /-- a row of its own, that nobody else has -/
  | own (e : TypeId) (sz : Nat) (l : List (List D))
  | panic (d : D)

def rrel (B : Nat) (U : Nat → Prop) (w : World) : R → Ending → Prop
  | .ret d, e => ∃ u, e = .returned u ∧ drep B U w d u
  | .own t sz l, e => ∃ u xs, e = .returned u ∧ drepss B (fun b => U b ∧ some b ≠ u.ownBlock) w l xs ∧ ((∀ x ∈ l, x.length = sz) ∧ ∀ u ∈ xs, u.oneCell' = true) ∧ w.ownsRow B t sz u l.length xs
  | .panic d, e => ∃ u, e = .panicked [{ v := u, recovered := false }] ∧ drep B U w d u

/-- called with this data, function f answers so, and turns nothing that there was -/
def VP (P : Program) (f : FuncId) (ds : List D) (post : R → Prop) : Prop :=
  (∀ args w, (callFunc f args).run P w = .ok (.enter f args) w) ∧ ∀ (U : Nat → Prop) (w : World) (us : List Value), dreps w.heap.size U w ds us →
    Calls P f us.toArray w fun e w' => Below w.heap.size w w' ∧ ∃ r, post r ∧ rrel w.heap.size (fun b => U b ∨ w.heap.size ≤ b) w' r e

theorem VP.mono {P : Program} {f : FuncId} {ds : List D} {post post' : R → Prop} (h : VP P f ds post) (hp : ∀ r, post r → post' r) : VP P f ds post' :=
  ⟨h.1, fun U w us hu => (h.2 U w us hu).mono fun _ _ ⟨h1, r, h2, h3⟩ => ⟨h1, r, hp _ h2, h3⟩⟩

/-! ### results -/
section
variable {B : Nat} {g : G} {w : World} {st : List E}
theorem ownsRow_sl {nw : Bool} {U : Nat → Prop} {e : TypeId} {sz : Nat} {u : Value} {l : List (List D)} {xs : List Value} (h1 : drepss B U w l xs) (h2 : ∀ x ∈ l, x.length = sz) (h0 : ∀ u ∈ xs, u.oneCell' = true) (h3 : w.ownsRow 0 e sz u l.length xs) (hnw : nw = true → ∀ b, u.ownBlock = some b → B ≤ b) (hU : ∀ b, u.ownBlock = some b → U b) : drep B U w (.sl false nw l) u := by
  simp only [drep]
  have hlen := h3.1
  rcases h3.2 with ⟨rfl, h4⟩ | ⟨b, cap, cur, rfl, _, hh, hn, hc, hs, ht⟩
  · have : l = [] := List.eq_nil_of_length_eq_zero h4
    subst this
    simp only [drepss] at h1
    subst h1
    exact ⟨none, 0, [], rfl, by simp, by simp, (fun h => by cases h), fun _ => rfl, ⟨0, by simp⟩, by simp, (fun j u hj => by simp at hj), by simp only [drepss]⟩
  · refine ⟨_, cap, xs, rfl, hn, hc, (fun h => by cases h), (fun h => by cases h), ⟨sz, h2⟩, h0, (fun j v hj => ⟨b, 0, rfl, ⟨hU b rfl, fun h => hnw h b rfl⟩, ?_⟩), h1⟩
    rw [Nat.zero_add, cell_of_row w b j cur e (0, 0) hh]
    rw [← ht, List.getElem?_take] at hj
    split at hj
    · simpa using hj
    · cases hj
end

/-- cells that stand one behind the other, as far as they are known -/
def runV (k off : Nat) (st : List E) : Nat → List V
  | 0 => []
  | n + 1 => match cellAt k off st with
    | none => []
    | some v => v :: runV k (off + 1) st n
def chunk {α : Type} (sz : Nat) : Nat → List α → List (List α)
  | 0, _ => []
  | n + 1, l => l.take sz :: chunk sz n (l.drop sz)
theorem chunk_len {α : Type} {sz : Nat} : ∀ {n : Nat} {l : List α}, (chunk sz n l).length = n
  | 0, _ => rfl
  | n + 1, l => by simp [chunk, chunk_len]
theorem dreps_part {B : Nat} {U : Nat → Prop} {w : World} : ∀ {l : List D} {cs : List Value}, dreps B U w l cs → ∀ i, dreps B U w (l.take i) (cs.take i) ∧ dreps B U w (l.drop i) (cs.drop i)
  | [], _, h, i => by simp only [dreps] at h; subst h; simp [dreps]
  | x :: xs, _, h, i => by
    have h0 := h
    simp only [dreps] at h
    obtain ⟨y, ys, e, k1, k2⟩ := h
    subst e
    cases i with
    | zero => exact ⟨by simp [dreps], by simpa using h0⟩
    | succ i => obtain ⟨p, q⟩ := dreps_part k2 i; simp only [List.take_succ_cons, List.drop_succ_cons, dreps]; exact ⟨⟨y, _, rfl, k1, p⟩, q⟩
def cutO {α : Type} : Nat → List α → Option (List α × List α)
  | 0, l => some ([], l)
  | _ + 1, [] => some ([], [])
  | n + 1, x :: l => match cutO n l with
    | some (a, b) => some (x :: a, b)
    | none => none
def chunkO {α : Type} (sz : Nat) : Nat → List α → Option (List (List α))
  | 0, _ => some []
  | n + 1, l => match cutO sz l with
    | some (a, b) => (match chunkO sz n b with
      | some r => some (a :: r)
      | none => none)
    | none => none
theorem cutO_eq {α : Type} : ∀ {n : Nat} {l : List α} {a b : List α}, cutO n l = some (a, b) → a = l.take n ∧ b = l.drop n
  | 0, l, a, b, h => by simp only [cutO, Option.some.injEq, Prod.mk.injEq] at h; obtain ⟨rfl, rfl⟩ := h; simp
  | n + 1, [], a, b, h => by simp only [cutO, Option.some.injEq, Prod.mk.injEq] at h; obtain ⟨rfl, rfl⟩ := h; simp
  | n + 1, x :: l, a, b, h => by
    simp only [cutO] at h
    split at h
    · rename_i a' b' hr; cases h; obtain ⟨h1, h2⟩ := cutO_eq hr; simp [h1, h2]
    · cases h
theorem chunkO_eq {α : Type} {sz : Nat} : ∀ {n : Nat} {l : List α} {r : List (List α)}, chunkO sz n l = some r → r = chunk sz n l
  | 0, l, r, h => by simp only [chunkO, Option.some.injEq] at h; subst h; rfl
  | n + 1, l, r, h => by
    simp only [chunkO] at h
    split at h
    · rename_i a b hc
      split at h
      · rename_i r' hr; cases h; obtain ⟨h1, h2⟩ := cutO_eq hc; rw [chunk, h1, chunkO_eq hr, h2]
      · cases h
    · cases h
theorem drepss_chunk {B : Nat} {U : Nat → Prop} {w : World} {sz : Nat} : ∀ {n : Nat} {l : List D} {cs : List Value}, l.length = n * sz → dreps B U w l cs → drepss B U w (chunk sz n l) cs ∧ ∀ x ∈ chunk sz n l, x.length = sz
  | 0, l, cs, hl, h => by
    have : l = [] := List.eq_nil_of_length_eq_zero (by omega)
    subst this
    simp only [dreps] at h; subst h
    simp [chunk, drepss]
  | n + 1, l, cs, hl, h => by
    rw [Nat.add_mul, Nat.one_mul] at hl
    have hp : dreps B U w (l.take sz) (cs.take sz) ∧ dreps B U w (l.drop sz) (cs.drop sz) := dreps_part h sz
    obtain ⟨k1, k2⟩ := drepss_chunk (sz := sz) (n := n) (l := l.drop sz) (by simp; omega) hp.2
    refine ⟨?_, fun x hx => ?_⟩
    · simp only [chunk, drepss]
      exact ⟨cs.take sz, cs.drop sz, (List.take_append_drop sz cs).symm, hp.1, k1⟩
    · rcases List.mem_cons.1 hx with rfl | hx
      · simp; omega
      · exact k2 x hx
mutual
/-- data out of a value, lent for a call -/
def lendD (st : List E) : Nat → V → Option D
  | _, .d x => some x
  | _, .ep l => some (.pt l)
  | 0, _ => none
  | n + 1, .agg l => match lendDs st n l with
    | some ds => some (.agg ds)
    | none => none
  | n + 1, .tup l => match lendDs st n l with
    | some ds => some (.tup ds)
    | none => none
  | n + 1, .ifc t x => match lendD st n x with
    | some d => some (.ifc t d)
    | none => none
  | _ + 1, .row k ver => match rowAt k st with
    | some (_, nw, v, _, _, l) => (match Nat.beq ver v with
      | true => some (.sl false nw l)
      | false => none)
    | none => none
  | n + 1, .ptr k off => match lendDs st n (runV k off st 64) with
    | some ds => some (.pt ds)
    | none => none
  | n + 1, .sv k off m _ sz => match cellsAt k off st (m * sz) with
    | some vs => (match leaves vs with
      | true => (match lendDs st n vs with
        | some ds => (match chunkO sz m ds with
          | some cs => some (.sl false false cs)
          | none => none)
        | none => none)
      | false => none)
    | none => none
  | _ + 1, .fn f [] [] => some (.lit (.func f #[] #[]))
  | n + 1, .fn (.func f) fi ca => match lendDs st n fi with
    | some a => (match lendDs st n ca with
      | some c => some (.fn f a c)
      | none => none)
    | none => none
  | _, _ => none
def lendDs (st : List E) : Nat → List V → Option (List D)
  | _, [] => some []
  | 0, _ => none
  | n + 1, v :: vs => match lendD st n v with
    | none => none
    | some d => (match lendDs st n vs with
      | none => none
      | some ds => some (d :: ds))
end
section
variable {B : Nat} {g : G} {w : World} {st : List E}
theorem cellsAt_len {k : Nat} : ∀ {n off : Nat} {vs : List V}, cellsAt k off st n = some vs → vs.length = n
  | 0, _, vs, h => by simp only [cellsAt, Option.some.injEq] at h; subst h; rfl
  | n + 1, off, vs, h => by
    simp only [cellsAt] at h
    split at h
    · cases h
    · split at h
      · cases h
      · rename_i ys hys; cases h; simp [cellsAt_len hys]
theorem cellsAt_rep (h : SimS B g w st) {k : Nat} {b : Nat} (hb : g.bx k = some b) : ∀ {n off : Nat} {vs : List V}, cellsAt k off st n = some vs → ∃ us, vreps B g w vs us ∧ At (fun _ => True ∧ True) w (some ⟨b, off, none⟩) us
  | 0, off, vs, hv => by simp only [cellsAt, Option.some.injEq] at hv; subst hv; exact ⟨[], by simp [vreps], fun j u hj => by simp at hj⟩
  | n + 1, off, vs, hv => by
    simp only [cellsAt] at hv
    split at hv
    · cases hv
    · rename_i v hv1
      split at hv
      · cases hv
      · rename_i ys hys
        cases hv
        obtain ⟨b', rcs, ty, u, m1, m2, m3, m4⟩ := h.cell hv1
        rw [hb] at m1; cases m1
        obtain ⟨us, h1, h2⟩ := cellsAt_rep h hb hys
        refine ⟨u :: us, by simp only [vreps]; exact ⟨u, us, rfl, m4, h1⟩, fun j x hj => ?_⟩
        cases j with
        | zero => simp at hj; subst hj; exact ⟨b, off, rfl, ⟨trivial, trivial⟩, by rw [Nat.add_zero, cell_of_row w b off rcs ty (0, 0) m2]; exact m3⟩
        | succ j =>
          obtain ⟨b2, o2, e1, e2, e3⟩ := h2 j x (by simpa using hj)
          cases e1
          exact ⟨b, off, rfl, ⟨trivial, trivial⟩, by rw [show off + (j + 1) = off + 1 + j by omega]; exact e3⟩
theorem runV_rep (h : SimS B g w st) {k : Nat} {b : Nat} (hb : g.bx k = some b) : ∀ (n off : Nat), ∃ us, vreps B g w (runV k off st n) us ∧ At (fun _ => True ∧ True) w (some ⟨b, off, none⟩) us
  | 0, off => ⟨[], by simp [runV, vreps], fun j u hj => by simp at hj⟩
  | n + 1, off => by
    simp only [runV]
    split
    · exact ⟨[], by simp [vreps], fun j u hj => by simp at hj⟩
    · rename_i v hv
      obtain ⟨b', rcs, ty, u, m1, m2, m3, m4⟩ := h.cell hv
      rw [hb] at m1; cases m1
      obtain ⟨us, h1, h2⟩ := runV_rep h hb n (off + 1)
      refine ⟨u :: us, by simp only [vreps]; exact ⟨u, us, rfl, m4, h1⟩, fun j x hj => ?_⟩
      cases j with
      | zero => simp at hj; subst hj; exact ⟨b, off, rfl, ⟨trivial, trivial⟩, by rw [Nat.add_zero, cell_of_row w b off rcs ty (0, 0) m2]; exact m3⟩
      | succ j =>
        obtain ⟨b2, o2, e1, e2, e3⟩ := h2 j x (by simpa using hj)
        cases e1
        exact ⟨b, off, rfl, ⟨trivial, trivial⟩, by rw [show off + (j + 1) = off + 1 + j by omega]; exact e3⟩
theorem At.of_ptr {U : Nat → Prop} {q : Prop} {b o : Nat} {cs : List Value} (h : At (fun _ => True ∧ True) w (some ⟨b, o, none⟩) cs) (hb : U b) (hq : q) : At (fun b => U b ∧ q) w (some ⟨b, o, none⟩) cs := fun j u hj => by
  obtain ⟨b2, o2, e1, _, e3⟩ := h j u hj
  cases e1
  exact ⟨b, o, rfl, ⟨hb, hq⟩, e3⟩
mutual
theorem lendD_rep {nb : Nat} (hi : Inv B nb g w) (h : SimS B g w st) {U : Nat → Prop} (hU : ∀ b, ¬ g.ex b → U b) : ∀ {n : Nat} {v : V} {d : D}, lendD st n v = some d → ∀ {u : Value}, vrep B g w v u → drep B U w d u := fun {n v d} hd {u} hu => by
  have hpU : ∀ b, g.prot b → U b := fun b hb => hU b fun he => hb (.inl he)
  unfold lendD at hd
  split at hd
  · cases hd
    simp only [vrep] at hu
    exact drep_mono (Nat.le_refl _) (fun b _ hb => ⟨hpU b hb, rfl⟩) hu
  · cases hd
    simp only [vrep] at hu
    obtain ⟨b, o, cs, e, k1, k2⟩ := hu
    simp only [drep]
    exact ⟨b, o, cs, e, k1.imp fun b hb => ⟨hpU b hb, trivial⟩, dreps_mono (Nat.le_refl _) (fun b _ hb => ⟨hpU b hb, rfl⟩) k2⟩
  · cases hd
  · rename_i n l
    split at hd
    · rename_i ds hds; cases hd
      simp only [vrep] at hu
      obtain ⟨cs, e, k⟩ := hu
      simp only [drep]
      exact ⟨cs, e, lendDs_rep hi h hU hds k⟩
    · cases hd
  · rename_i n l
    split at hd
    · rename_i ds hds; cases hd
      simp only [vrep] at hu
      obtain ⟨cs, e, k⟩ := hu
      simp only [drep]
      exact ⟨cs, e, lendDs_rep hi h hU hds k⟩
    · cases hd
  · rename_i n t x
    split at hd
    · rename_i y hy; cases hd
      simp only [vrep] at hu
      obtain ⟨z, e, k⟩ := hu
      simp only [drep]
      exact ⟨z, e, lendD_rep hi h hU hy k⟩
    · cases hd
  · rename_i n k ver
    split at hd
    · rename_i o nw v e sz l hr
      split at hd
      · rename_i hb
        have := Nat.eq_of_beq_eq_true hb
        subst this
        cases hd
        simp only [vrep] at hu
        obtain ⟨v', xs, h1, h2, h3, hn, h4⟩ := h.row hr
        rw [hu.1] at h1; cases h1
        rcases h4 with ⟨_, h4, h5⟩ | ⟨_, h4, h5⟩
        · exact ownsRow_sl (drepss_mono (Nat.le_refl _) (fun b _ hb => ⟨hpU b hb, rfl⟩) h2) h3.1 h3.2.1 h4 hn fun b hb => hU b (hi.exrb (h5.trans hb))
        · exact drep_mono (Nat.le_refl _) (fun b _ hb => ⟨hpU b hb, rfl⟩) h5
      · cases hd
    · cases hd
  · rename_i n k off
    split at hd
    · rename_i ds hds; cases hd
      simp only [vrep] at hu
      obtain ⟨b, hb, rfl⟩ := hu
      obtain ⟨us, h1, h2⟩ := runV_rep h hb 64 off
      simp only [drep]
      exact ⟨b, off, us, rfl, h2.of_ptr (hU b (hi.exbx hb)) trivial, lendDs_rep hi h hU hds h1⟩
    · cases hd
  · rename_i n k off m cap sz
    split at hd
    · rename_i vs hvs
      split at hd
      · rename_i hlv
        split at hd
        · rename_i ds hds
          split at hd
          rotate_left
          · cases hd
          rename_i cs hcs
          cases hd
          rw [chunkO_eq hcs]
          simp only [vrep] at hu
          obtain ⟨b, hb, rfl, hc1, hc2⟩ := hu
          obtain ⟨us, h1, h2⟩ := cellsAt_rep h hb hvs
          have hlen : ds.length = m * sz := by rw [← cellsAt_len hvs, ← vreps_len h1, dreps_len (lendDs_rep hi h hU hds h1)]
          obtain ⟨k1, k2⟩ := drepss_chunk hlen (lendDs_rep hi h hU hds h1)
          simp only [drep]
          exact ⟨_, cap, us, by rw [chunk_len], by rw [chunk_len]; exact hc1, hc2, (fun h => by cases h), (fun h => by cases h), ⟨sz, k2⟩, leaves_one hlv h1, (h2.of_ptr (hU b (hi.exbx hb)) trivial).imp fun _ h => ⟨h.1, fun h => by cases h⟩, k1⟩
        · cases hd
      · cases hd
    · cases hd
  · cases hd
    simp only [vrep, vreps] at hu
    obtain ⟨xs, ys, e, rfl, rfl⟩ := hu
    simp only [drep]; exact e
  · rename_i n f fi ca _
    split at hd
    · rename_i a ha
      split at hd
      · rename_i c hc; cases hd
        simp only [vrep] at hu
        obtain ⟨xs, ys, e, k1, k2⟩ := hu
        simp only [drep]
        exact ⟨xs, ys, e, lendDs_rep hi h hU ha k1, lendDs_rep hi h hU hc k2⟩
      · cases hd
    · cases hd
  · cases hd
theorem lendDs_rep {nb : Nat} (hi : Inv B nb g w) (h : SimS B g w st) {U : Nat → Prop} (hU : ∀ b, ¬ g.ex b → U b) : ∀ {n : Nat} {v : List V} {d : List D}, lendDs st n v = some d → ∀ {u : List Value}, vreps B g w v u → dreps B U w d u := fun {n v d} hd {u} hu => by
  unfold lendDs at hd
  split at hd
  · cases hd; simp only [vreps] at hu; simp only [dreps]; exact hu
  · cases hd
  · rename_i n v vs
    split at hd
    · cases hd
    · rename_i x hx
      split at hd
      · cases hd
      · rename_i xs hxs
        cases hd
        simp only [vreps] at hu
        obtain ⟨y, ys, e, k1, k2⟩ := hu
        simp only [dreps]
        exact ⟨y, ys, e, lendD_rep hi h hU hx k1, lendDs_rep hi h hU hxs k2⟩
end
end

abbrev retD (st : List E) (v : V) : Option D := lendD st 64 v
/-- the results' values -/
inductive ResV (P : Program) (s : St) : List ResultVar → List V → Prop where
  | nil : ResV P s [] []
  | tmp {t : Tmp} {v : V} {rs : List ResultVar} {vs : List V} (h : lookT t s.tm = some v) (k : ResV P s rs vs) : ResV P s (.tmp t :: rs) (v :: vs)
  | cell {t : Tmp} {ty : TypeId} {b off sz : Nat} {z : List Value} {v : V} {rs : List ResultVar} {vs : List V} (hT : TyI P ty false sz z) (h : lookT t s.tm = some (.ptr b off)) (h2 : cellAt b off s.st = some v) (k : ResV P s rs vs) : ResV P s (.cell t ty :: rs) (v :: vs)
  | cells {t : Tmp} {ty : TypeId} {b off sz : Nat} {z : List Value} {v : List V} {rs : List ResultVar} {vs : List V} (hT : TyI P ty true (sz + 1) z) (h : lookT t s.tm = some (.ptr b off)) (h2 : cellsAt b off s.st (sz + 1) = some v) (k : ResV P s rs vs) : ResV P s (.cell t ty :: rs) (.agg v :: vs)
def packV : List V → V
  | [v] => v
  | vs => .tup vs

/-- one result's value, in any world in which the walk's own lies as it lies -/
def resOne (a : Act) : ResultVar → Sem Value
  | .tmp t => pure (a.tmps.getD t undef)
  | .cell b t => do loadVar t (← asAddr (a.tmps.getD b undef))
theorem ResV.run {P : Program} {cx : Cx} {s : St} {g : G} {a : Act} {w : World} (hS : Sim cx g a w s) {w2 : World} (hw : ∀ b, g.own b → w2.heap[b]? = w.heap[b]?) {rs : List ResultVar} {vs : List V} (h : ResV P s rs vs) :
    ∃ us : List Value, vreps cx.B g w vs us ∧ (rs.mapM (resOne a)).run P w2 = .ok us w2 := by
  induction h with
  | nil => exact ⟨[], by simp [vreps], by simp⟩
  | tmp h k ih =>
    obtain ⟨us, h1, h2⟩ := ih
    exact ⟨_ :: us, by simp only [vreps]; exact ⟨_, us, rfl, hS.tm h, h1⟩, by simp [List.mapM_cons, resOne, h2]⟩
  | cell hT h hc k ih =>
    obtain ⟨us, h1, h2⟩ := ih
    have hp := hS.tm h
    simp only [vrep] at hp
    obtain ⟨b, hb, hp⟩ := hp
    obtain ⟨b', rcs, ty, u, k1, k2, k3, k4⟩ := hS.st.cell hc
    rw [hb] at k1; cases k1
    have := run_loadVar_leaf (P := P) (hT := hT) (w := w2) (a := ⟨b, _, none⟩) (u := u) (by rw [cell_of_row w2 b _ rcs ty (0, 0) ((hw b (.inr (.inl ⟨_, hb⟩))).trans k2)]; exact k3)
    exact ⟨u :: us, by simp only [vreps]; exact ⟨u, us, rfl, k4, h1⟩, by simp [List.mapM_cons, resOne, Sem.run_bind, h2, hp, asAddr, this]⟩
  | cells hT h hc k ih =>
    obtain ⟨us, h1, h2⟩ := ih
    have hp := hS.tm h
    simp only [vrep] at hp
    obtain ⟨b, hb, hp⟩ := hp
    obtain ⟨b', rcs, ty, xs, k1, k2, k3, k4, k5⟩ := hS.st.cells hc
    rw [hb] at k1; cases k1
    have := run_loadVar_agg (P := P) (hT := hT) (w := w2) (b := b) (us := xs) k4 (fun j u hj => by rw [cell_of_row w2 b _ rcs ty (0, 0) ((hw b (.inr (.inl ⟨_, hb⟩))).trans k2)]; exact k5 j u hj)
    exact ⟨.agg xs.toArray :: us, by simp only [vreps]; exact ⟨_, us, rfl, (by simp only [vrep]; exact ⟨xs, rfl, k3⟩), h1⟩, by simp [List.mapM_cons, resOne, Sem.run_bind, h2, hp, asAddr, this]⟩
theorem ResV.all {P : Program} {cx : Cx} {s : St} {g : G} {a : Act} {w : World} (hS : Sim cx g a w s) {w2 : World} (hw : ∀ b, g.own b → w2.heap[b]? = w.heap[b]?) {fn : Func} {vs : List V} (h : ResV P s fn.results.toList vs) :
    ∃ u, (results fn a.tmps).run P w2 = .ok u w2 ∧ vrep cx.B g w (packV vs) u := by
  obtain ⟨us, h1, h2⟩ := h.run hS hw
  have hlen := vreps_len h1
  have hm : (fn.results.mapM (resOne a)).run P w2 = .ok us.toArray w2 := by
    rw [Array.mapM_eq_mapM_toList]
    have : (List.toArray <$> List.mapM (resOne a) fn.results.toList : Sem (Array Value)) = (List.mapM (resOne a) fn.results.toList) >>= fun l => pure l.toArray := by rw [← bind_pure_comp]
    rw [this, Sem.run_bind, h2]
    rfl
  have key : Go.results fn a.tmps = (fn.results.mapM (resOne a)) >>= fun vs => pure (if h : vs.size = 1 then vs[0] else .tuple vs) := by
    unfold Go.results
    congr 1
  rw [key, Sem.run_bind, hm]
  simp only [Result.andThen_ok]
  by_cases hone : us.length = 1
  · obtain ⟨u, rfl⟩ := List.length_eq_one_iff.1 hone
    rw [hlen] at hone
    obtain ⟨v, rfl⟩ := List.length_eq_one_iff.1 hone
    simp only [vreps] at h1
    obtain ⟨y, ys, e, k1, k2⟩ := h1
    cases e
    exact ⟨u, by simp, k1⟩
  · refine ⟨.tuple us.toArray, by simp [hone], ?_⟩
    have : packV vs = .tup vs := by
      cases vs with
      | nil => rfl
      | cons v vs => cases vs with
        | nil => simp at hlen; exact (hone hlen).elim
        | cons _ _ => rfl
    rw [this]
    simp only [vrep]
    exact ⟨us, rfl, h1⟩

/-! ### leaving -/
structure Left (bs : List Nat) (w w' : World) : Prop where
  os : w'.os = w.os
  tape : w'.tape = w.tape
  output : w'.output = w.output
  size : w'.heap.size = w.heap.size
  block : ∀ b, b ∉ bs → w'.heap[b]? = w.heap[b]?
theorem leaves_marksR {F : Fence} {n : Nat} {P : Program} {fn : Func} {tmps : Array Value} {T : Ending → World → Prop} {u : FrameMode} {r : List Deferred} (hu : u ≠ .run) : ∀ (bs : List Nat) (w : World), bs.Nodup → (∀ b ∈ bs, w.heap[b]? = some (.deferred (some []))) →
    (∀ w', Left bs w w' → LeavesInM F n P fn tmps T r u w') → LeavesInM F n P fn tmps T (bs.map (fun b => { target := .collected b, args := #[] }) ++ r) u w
  | [], w, _, _, h => by simp only [List.map_nil, List.nil_append]; exact h w ⟨rfl, rfl, rfl, rfl, fun _ _ => rfl⟩
  | b :: bs, w, hn, hb, h => by
    simp only [List.map_cons, List.cons_append, LeavesInM]
    have hn' := List.nodup_cons.1 hn
    refine ⟨hu, .inl ⟨b, _, rfl, run_takeDeferred (hb b (by simp)), ?_⟩⟩
    have hother : ∀ c, c ≠ b → (w.putObj b (.deferred none)).heap[c]? = w.heap[c]? := fun c hc => by
      simp only [World.putObj, Array.getElem?_setIfInBounds]
      rw [if_neg (fun e => hc e.symm)]
    refine leaves_marksR hu bs _ hn'.2 (fun c hc => (hother c (fun e => hn'.1 (e ▸ hc))).trans (hb c (by simp [hc]))) fun w' hl => h w' ⟨hl.os, hl.tape, hl.output, hl.size.trans (by simp [World.putObj]), fun c hc => ?_⟩
    simp only [List.mem_cons, not_or] at hc
    exact (hl.block c hc.2).trans (hother c hc.1)
theorem leaves_marks {F : Fence} {n : Nat} {P : Program} {fn : Func} {tmps : Array Value} {T : Ending → World → Prop} {u : FrameMode} (hu : u ≠ .run) (bs : List Nat) (w : World) (hn : bs.Nodup) (hb : ∀ b ∈ bs, w.heap[b]? = some (.deferred (some [])))
    (h : ∀ w', Left bs w w' → LeavesIn F n P fn tmps T [] u w') : LeavesInM F n P fn tmps T (bs.map fun b => { target := .collected b, args := #[] }) u w := by
  have := leaves_marksR (F := F) (n := n) (P := P) (fn := fn) (tmps := tmps) (T := T) (r := []) hu bs w hn hb fun w' hl => by simp only [LeavesInM]; exact h w' hl
  simpa using this

def argsT : Nat → List V → List (Nat × V)
  | _, [] => []
  | i, v :: vs => (i, v) :: argsT (i + 1) vs
theorem argsT_look {t : Nat} {v : V} : ∀ {l : List V} {i : Nat}, lookT t (argsT i l) = some v → i ≤ t ∧ l[t - i]? = some v
  | [], _, h => by simp [argsT, lookT] at h
  | x :: xs, i, h => by
    simp only [argsT, lookT] at h
    split at h
    · rename_i hb
      have := Nat.eq_of_beq_eq_true hb
      subst this
      cases h
      exact ⟨Nat.le_refl _, by simp⟩
    · obtain ⟨h1, h2⟩ := argsT_look h
      refine ⟨by omega, ?_⟩
      rw [show t - i = (t - (i + 1)) + 1 by omega]
      simpa using h2

/-- what the walk of a function's body owes -/
def retQ (P : Program) (rs : List ResultVar) (post : R → Prop) : VE → St → Prop
  | .normal, s | .ret, s => ∃ vs, ResV P s rs vs ∧ ((∃ d, retD s.st (packV vs) = some d ∧ post (.ret d)) ∨
      ∃ k nw ver e sz l, packV vs = .row k ver ∧ rowAt k s.st = some (true, nw, ver, e, sz, l) ∧ post (.own e sz l))
  | .panic v, s => ∃ d, retD s.st v = some d ∧ post (.panic d)
  | _, _ => False

theorem callFunc_run {P : Program} {f : FuncId} {fn : Func} (hf : P.funcs[f]? = some fn) (hn : (fn.name == "runtime.NumGoroutine") = false) (hb : fn.body.isNone = false) (args : Array Value) (w : World) : (callFunc f args).run P w = .ok (.enter f args) w := by
  have : (program : Sem Program).run P w = .ok P w := rfl
  unfold callFunc
  rw [Sem.run_bind, this]
  simp only [Result.andThen_ok, hf, hn, hb]
  rfl
/-- a function's answer, by a walk through its code -/
theorem vp_of {P : Program} {f : FuncId} {fn : Func} {c : Code} {ds : List D} {post : R → Prop} (hf : P.funcs[f]? = some fn) (hb : fn.body = some c) {N : Nat} (hN : fn.ntmps = N) (hle : Nat.ble ds.length N = true) {rs : List ResultVar} (hrs0 : fn.results = rs.toArray)
    (h : ∀ B, VW P ⟨N, none, B, 0, some B, []⟩ c ⟨argsT 0 (ds.map .d), [], 0⟩ (retQ P rs post)) (hname : (fn.name == "runtime.NumGoroutine") = false := by kernel_rfl) : VP P f ds post := by
  refine ⟨callFunc_run hf hname (by rw [hb]; rfl), ?_⟩
  have hrs : fn.results.toList = rs := by rw [hrs0]
  intro U w us hus
  have hlen := dreps_len hus
  have hle := Nat.le_of_ble_eq_true hle
  rw [← callsIn_wide (n := 0)]
  refine callsIn_of_wp_marks hf hb trivial ?_
  let g0 : G := ⟨fun b => ¬ U b ∧ b < w.heap.size, fun _ => none, fun _ => none, fun _ _ => none⟩
  have hp0 : ∀ b, g0.prot b ↔ U b ∨ w.heap.size ≤ b := fun b => by
    simp only [G.prot, G.own, g0]
    constructor
    · intro h
      by_cases hU : U b
      · exact .inl hU
      · exact .inr (Nat.le_of_not_lt fun hlt => h (.inl ⟨hU, hlt⟩))
    · rintro h (⟨h1, h2⟩ | ⟨k, hk⟩ | ⟨k, hk⟩)
      · rcases h with h | h
        · exact h1 h
        · omega
      · cases hk
      · cases hk
  have hS : Sim ⟨N, none, w.heap.size, 0, some w.heap.size, []⟩ g0 { tmps := us.toArray ++ Array.replicate (fn.ntmps - us.toArray.size) undef, defers := [] } w ⟨argsT 0 (ds.map .d), [], 0⟩ := by
    refine ⟨by simp [hN, hlen]; omega, fun {t v} hv => ?_, ⟨fun h => by simp [cellAt] at h, fun h => by simp [rowAt] at h, fun h => by simp [loopAt] at h⟩, ⟨fun h => by simp [g0] at h, fun h => by simp [g0] at h, fun h => by simp [g0] at h, fun h => by simp [g0] at h, fun h => by simp [g0] at h, fun h => by simp [g0] at h, fun h => h.2, fun h => by simp [g0] at h, fun h => by simp [g0] at h, Nat.le_refl _⟩, ⟨(fun _ h => by first | (cases h; fail_if_success (focus skip)) | (cases h; exact Nat.le_refl _)), [], [], rfl, by simp, by simp, rfl⟩⟩
    obtain ⟨h1, h2⟩ := argsT_look hv
    simp only [Nat.sub_zero, List.getElem?_map, Option.map_eq_some_iff] at h2
    obtain ⟨d, hd, rfl⟩ := h2
    obtain ⟨u, hu, k⟩ := dreps_get hus hd
    have hlt := (List.getElem?_eq_some_iff.1 hu).1
    simp only [vrep]
    rw [Array.getD_eq_getD_getElem?, Array.getElem?_append_left (by simpa using hlt)]
    simp only [List.getElem?_toArray, hu, Option.getD_some]
    exact drep_mono (Nat.le_refl _) (fun b _ hb => ⟨(hp0 b).2 (.inl hb), rfl⟩) k
  refine wpIn_mono (h w.heap.size 0 g0 w g0 _ w (Ext.refl _ _ _) hS) ?_
  rintro e a' w' ⟨g', s', e', hE, hS', he, hq⟩
  have hfin : ∀ {bs : List Nat} {w2 : World}, (∀ b ∈ bs, g'.prot b ∧ w.heap.size ≤ b ∧ w'.heap[b]? = some (.deferred (some []))) → Left bs w' w2 → Below w.heap.size w w2 ∧ (∀ b, g'.own b → w2.heap[b]? = w'.heap[b]?) ∧
      (∀ b cs t fz, w'.heap[b]? = some (.cells cs t fz) → (U b ∨ w.heap.size ≤ b) → (U b ∨ w.heap.size ≤ b) ∧ w2.heap[b]? = w'.heap[b]?) := fun {bs w2} hbs hl => by
    refine ⟨⟨hl.os.trans hE.os, hl.tape.trans hE.tape, hl.output.trans hE.output, by rw [hl.size]; exact hE.size, fun b hb => ?_⟩, fun b hb => hl.block b fun hm => (hbs b hm).1 hb, fun b cs t fz hc hu => ⟨hu, hl.block b fun hm => by rw [(hbs b hm).2.2] at hc; cases hc⟩⟩
    rw [hl.block b fun hm => by have := (hbs b hm).2.1; omega]
    by_cases hU : U b
    · exact (hE.blk b hb ((hp0 b).2 (.inl hU))).2
    · exact hE.exblk b ⟨hU, hb⟩
  have hex : ∀ b, ¬ g'.ex b → U b ∨ w.heap.size ≤ b := fun b hb => by
    rw [hE.ex] at hb
    by_cases hU : U b
    · exact .inl hU
    · exact .inr (Nat.le_of_not_lt fun hlt => hb ⟨hU, hlt⟩)
  obtain ⟨_, bs, rr, hds, hnd, hbs0, hrr⟩ := hS'.defers
  have hbs : ∀ b ∈ bs, g'.prot b ∧ w.heap.size ≤ b ∧ w'.heap[b]? = some (.deferred (some [])) := fun b hb => by
    obtain ⟨h1, ⟨m, h2, h3⟩, h4⟩ := hbs0 b hb
    cases h2; exact ⟨h1, h3, h4⟩
  simp only [DfL] at hrr
  rw [hrr, List.append_nil] at hds
  have hret : (∃ vs, ResV P s' rs vs ∧ ((∃ d, retD s'.st (packV vs) = some d ∧ post (.ret d)) ∨ ∃ k nw ver e sz l, packV vs = .row k ver ∧ rowAt k s'.st = some (true, nw, ver, e, sz, l) ∧ post (.own e sz l))) →
      LeavesInM Fence.wide 0 P fn a'.tmps (fun e w' => Below w.heap.size w w' ∧ ∃ r, post r ∧ rrel w.heap.size (fun b => U b ∨ w.heap.size ≤ b) w' r e) a'.defers .returning w' := by
    rintro ⟨vs, hv, hq⟩
    rw [hds]
    refine leaves_marks (by simp) bs w' hnd (fun b hb => (hbs b hb).2.2) fun w2 hl => ?_
    obtain ⟨f1, f2, f3⟩ := hfin hbs hl
    obtain ⟨u, h1, h2⟩ := ResV.all (fn := fn) hS' f2 (by rw [hrs]; exact hv)
    simp only [LeavesIn]
    refine ⟨u, h1, f1, ?_⟩
    rcases hq with ⟨d, hd, hp⟩ | ⟨k, nw, ver, e, sz, l, hk, hr, hp⟩
    · refine ⟨_, hp, u, rfl, drep_at (fun _ _ _ h => At.cells f3 h) (lendD_rep hS'.inv hS'.st hex hd h2)⟩
    · rw [hk] at h2
      simp only [vrep] at h2
      obtain ⟨v, xs, k1, k2, k3, _, k4⟩ := hS'.st.row hr
      rw [h2.1] at k1; cases k1
      rcases k4 with ⟨_, k4, k5⟩ | ⟨k4, _⟩
      · refine ⟨_, hp, u, xs, rfl, drepss_at (fun _ _ _ h => At.cells (U := fun b => (U b ∨ w.heap.size ≤ b) ∧ some b ≠ u.ownBlock) (fun b cs t fz hc hu => ⟨⟨(f3 b cs t fz hc hu.1).1, hu.2⟩, (f3 b cs t fz hc hu.1).2⟩) h) (drepss_mono (Nat.le_refl _) (fun b _ hb => ⟨⟨hex b fun he => hb (.inl he), fun e => hb (.inr (.inr ⟨k, k5.trans e.symm⟩))⟩, rfl⟩) k2), ⟨k3.1, k3.2.1⟩, ?_⟩
        refine ⟨k4.1, ?_⟩
        rcases k4.2 with k6 | ⟨gb, cap, cur, hv', _, hh, rest⟩
        · exact .inl k6
        · have hown : g'.rb k = some gb := by rw [k5, hv']; rfl
          refine .inr ⟨gb, cap, cur, hv', ?_, (f2 gb (.inr (.inr ⟨k, hown⟩))).trans hh, rest⟩
          refine Nat.le_of_not_lt fun hlt => ?_
          rcases (by
            by_cases hU : U gb
            · exact .inl hU
            · exact .inr ⟨hU, hlt⟩ : U gb ∨ (¬ U gb ∧ gb < w.heap.size)) with hU | hx
          · exact (hE.blk gb hlt ((hp0 gb).2 (.inl hU))).1 (.inr (.inr ⟨k, hown⟩))
          · exact hS'.inv.exrb hown (by rw [hE.ex]; exact hx)
      · cases k4
  cases e' with
  | normal => simp only [erel] at he; subst he; exact hret hq
  | ret => simp only [erel] at he; subst he; exact hret hq
  | panic v =>
    obtain ⟨u, rfl, hu⟩ := he
    obtain ⟨d, hd, hp⟩ := hq
    simp only [bodyPostM]
    rw [hds]
    refine leaves_marks (by simp) bs w' hnd (fun b hb => (hbs b hb).2.2) fun w2 hl => ?_
    obtain ⟨f1, f2, f3⟩ := hfin hbs hl
    simp only [LeavesIn]
    exact ⟨f1, _, hp, u, rfl, drep_at (fun _ _ _ h => At.cells f3 h) (lendD_rep hS'.inv hS'.st hex hd hu)⟩
  | exit id => exact hq.elim
  | goto l => exact hq.elim

end Go.Proofs.Ytjfaihpiohccbaa

namespace Go.Proofs.Ytjfaihpiohccbaa
open Go.RowKit

/-- data as another one hands it on: what is new to the one is not to the other -/
class DL (x y : D) : Prop where
  le : ∀ B B' U w u, drep B U w x u → drep B' U w y u
class DLs (x y : List D) : Prop where
  le : ∀ B B' U w u, dreps B U w x u → dreps B' U w y u
class DLss (x y : List (List D)) : Prop where
  le : ∀ B B' U w u, drepss B U w x u → drepss B' U w y u
  len : x.length = y.length
  sz : ∀ n, (∀ c ∈ x, c.length = n) → ∀ c ∈ y, c.length = n
instance (v : Value) : DL (.lit v) (.lit v) := ⟨fun _ _ _ _ _ h => by simp only [drep] at h ⊢; exact h⟩
instance (x : D) : DL x .any := ⟨fun _ _ _ _ _ _ => by simp only [drep]⟩
instance : DLs [] [] := ⟨fun _ _ _ _ _ h => by simp only [dreps] at h ⊢; exact h⟩
instance {x y : D} {xs ys : List D} [h : DL x y] [hs : DLs xs ys] : DLs (x :: xs) (y :: ys) := ⟨fun B B' U w u k => by
  simp only [dreps] at k ⊢
  obtain ⟨a, b, e, k1, k2⟩ := k
  exact ⟨a, b, e, h.le _ _ _ _ _ k1, hs.le _ _ _ _ _ k2⟩⟩
instance {xs ys : List D} [hs : DLs xs ys] : DL (.agg xs) (.agg ys) := ⟨fun B B' U w u k => by
  simp only [drep] at k ⊢
  obtain ⟨cs, e, k⟩ := k
  exact ⟨cs, e, hs.le _ _ _ _ _ k⟩⟩
instance {xs ys : List D} [hs : DLs xs ys] : DL (.tup xs) (.tup ys) := ⟨fun B B' U w u k => by
  simp only [drep] at k ⊢
  obtain ⟨cs, e, k⟩ := k
  exact ⟨cs, e, hs.le _ _ _ _ _ k⟩⟩
instance {t : TypeId} {x y : D} [hs : DL x y] : DL (.ifc t x) (.ifc t y) := ⟨fun B B' U w u k => by
  simp only [drep] at k ⊢
  obtain ⟨cs, e, k⟩ := k
  exact ⟨cs, e, hs.le _ _ _ _ _ k⟩⟩
instance {xs ys : List D} [hs : DLs xs ys] : DL (.pt xs) (.pt ys) := ⟨fun B B' U w u k => by
  simp only [drep] at k ⊢
  obtain ⟨b, o, cs, e, k1, k2⟩ := k
  exact ⟨b, o, cs, e, k1, hs.le _ _ _ _ _ k2⟩⟩
instance (f : FuncId) : DL (.lit (.func (.func f) #[] #[])) (.fn f [] []) := ⟨fun B B' U w u k => by
  simp only [drep, dreps] at k ⊢
  exact ⟨[], [], k, rfl, rfl⟩⟩
instance {f : FuncId} {xs ys xs' ys' : List D} [hs : DLs xs ys] [hs' : DLs xs' ys'] : DL (.fn f xs xs') (.fn f ys ys') := ⟨fun B B' U w u k => by
  simp only [drep] at k ⊢
  obtain ⟨a, b, e, k1, k2⟩ := k
  exact ⟨a, b, e, hs.le _ _ _ _ _ k1, hs'.le _ _ _ _ _ k2⟩⟩
theorem dl_sl {c f : Bool} {x y : List (List D)} (hs : DLss x y) : ∀ B B' U w u, drep B U w (.sl c f x) u → drep B' U w (.sl false false y) u := fun B B' U w u k => by
  simp only [drep] at k ⊢
  obtain ⟨a, cap, cs, e1, e2, e3, e4, e5, ⟨sz, e6⟩, e0, e7, e8⟩ := k
  refine ⟨a, cap, cs, by rw [e1, hs.len], by rw [← hs.len]; exact e2, e3, (fun h => by cases h), e5, ⟨sz, hs.sz sz e6⟩, e0, e7.imp fun b h => ⟨h.1, fun h => by cases h⟩, hs.le _ _ _ _ _ e8⟩
instance {c f : Bool} {x y : List (List D)} [hs : DLss x y] : DL (.sl c f x) (.sl false false y) := ⟨dl_sl hs⟩
/-- rows of rows, each element by itself -/
theorem dlss_map {α : Type} (l : List α) (f g : α → List D) (h : ∀ x, DLs (f x) (g x)) (hl : ∀ x, (f x).length = (g x).length) : DLss (l.map f) (l.map g) := by
  refine ⟨?_, by simp, fun n hn c hc => ?_⟩
  · induction l with
    | nil => intro B B' U w u k; simp only [List.map_nil, drepss] at k ⊢; exact k
    | cons x l ih =>
      intro B B' U w u k
      simp only [List.map_cons, drepss] at k ⊢
      obtain ⟨c1, c2, e, k1, k2⟩ := k
      exact ⟨c1, c2, e, (h x).le _ _ _ _ _ k1, ih _ _ _ _ _ k2⟩
  · simp only [List.mem_map] at hc
    obtain ⟨x, hx, rfl⟩ := hc
    rw [← hl]; exact hn _ (List.mem_map.2 ⟨x, hx, rfl⟩)
/-- rows of plain values -/
instance {α : Type} (l : List α) (f : α → Value) : DLss (l.map fun x => [D.lit (f x)]) (l.map fun x => [D.lit (f x)]) := dlss_map l _ _ (fun _ => inferInstance) (fun _ => rfl)
instance {c f : Bool} : DL (.lit (.slice none 0 0)) (.sl c f []) := ⟨fun B B' U w u h => dle_nil c f B' U w u (by simp only [drep] at h ⊢; exact h)⟩
instance : DLss [] [] := ⟨fun _ _ _ _ _ h => by simp only [drepss] at h ⊢; exact h, rfl, fun _ _ c hc => by simp at hc⟩

theorem dls_nil : DLs [] [] := inferInstance
theorem dls_cons {x y : D} {xs ys : List D} (h : DL x y) (hs : DLs xs ys) : DLs (x :: xs) (y :: ys) := inferInstance
theorem dl_lit (v : Value) : DL (.lit v) (.lit v) := inferInstance
theorem dl_agg {xs ys : List D} (h : DLs xs ys) : DL (.agg xs) (.agg ys) := inferInstance
theorem dl_lf (f : FuncId) : DL (.lit (.func (.func f) #[] #[])) (.fn f [] []) := inferInstance
theorem dl_pt {xs ys : List D} (h : DLs xs ys) : DL (.pt xs) (.pt ys) := inferInstance
theorem dl_fn {f : FuncId} {xs ys xs' ys' : List D} (h : DLs xs ys) (h' : DLs xs' ys') : DL (.fn f xs xs') (.fn f ys ys') := inferInstance
theorem dl_ifc {t : TypeId} {x y : D} (h : DL x y) : DL (.ifc t x) (.ifc t y) := inferInstance
theorem dl_slr {c f : Bool} {x : List (List D)} (h : DLss x x) : DL (.sl c f x) (.sl false false x) := inferInstance

mutual
/-- data out of a value, to be handed on -/
def argD (st : List E) : V → Option D
  | .d x => some x
  | .agg l => match argDs st l with
    | some ds => some (.agg ds)
    | none => none
  | .row k ver => match rowAt k st with
    | some (o, nw, v, _, _, l) => (match o with
      | true => none
      | false => (match Nat.beq ver v with
        | true => some (.sl false nw l)
        | false => none))
    | none => none
  | .ifc t x => match argD st x with
    | some d => some (.ifc t d)
    | none => none
  | .fn f [] [] => some (.lit (.func f #[] #[]))
  | .ep l => some (.pt l)
  | _ => none
def argDs (st : List E) : List V → Option (List D)
  | [] => some []
  | v :: vs => match argD st v with
    | none => none
    | some d => (match argDs st vs with
      | none => none
      | some ds => some (d :: ds))
end

section
variable {B : Nat} {g : G} {w : World} {st : List E}
mutual
theorem argD_rep (h : SimS B g w st) : ∀ {v : V} {d : D}, argD st v = some d → ∀ {u : Value}, vrep B g w v u → drep B g.prot w d u
  | .d x, d, hd, u, hu => by simp only [argD, Option.some.injEq] at hd; subst hd; simp only [vrep] at hu; exact hu
  | .agg l, d, hd, u, hu => by
    simp only [argD] at hd
    split at hd
    · rename_i ds hds; cases hd
      simp only [vrep] at hu
      obtain ⟨cs, e, k⟩ := hu
      simp only [drep]
      exact ⟨cs, e, argDs_rep h hds k⟩
    · cases hd
  | .row k ver, d, hd, u, hu => by
    simp only [argD] at hd
    split at hd
    · rename_i o nw v e sz l hr
      cases o with
      | true => simp at hd
      | false =>
        simp only at hd
        split at hd
        · rename_i hb
          have := Nat.eq_of_beq_eq_true hb
          subst this
          cases hd
          simp only [vrep] at hu
          obtain ⟨v', xs, h1, h2, h3, _, h4⟩ := h.row hr
          rw [hu.1] at h1; cases h1
          rcases h4 with ⟨h4, _⟩ | ⟨_, h4, h5⟩
          · cases h4
          · exact h5
        · cases hd
    · cases hd
  | .ifc t x, d, hd, u, hu => by
    simp only [argD] at hd
    split at hd
    · rename_i y hy; cases hd
      simp only [vrep] at hu
      obtain ⟨z, e, k⟩ := hu
      simp only [drep]
      exact ⟨z, e, argD_rep h hy k⟩
    · cases hd
  | .fn f [] [], d, hd, u, hu => by
    simp only [argD, Option.some.injEq] at hd; subst hd
    simp only [vrep, vreps] at hu
    obtain ⟨xs, ys, e, rfl, rfl⟩ := hu
    simp only [drep]; exact e
  | .fn f (_ :: _) _, d, hd, _, _ => by simp [argD] at hd
  | .fn f [] (_ :: _), d, hd, _, _ => by simp [argD] at hd
  | .ptr _ _, d, hd, _, _ => by simp [argD] at hd
  | .ep l, d, hd, u, hu => by
    simp only [argD, Option.some.injEq] at hd; subst hd
    simp only [vrep] at hu
    obtain ⟨b, o, cs, e, k1, k2⟩ := hu
    simp only [drep]
    exact ⟨b, o, cs, e, k1.imp fun b hb => ⟨hb, trivial⟩, k2⟩
  | .sv _ _ _ _ _, d, hd, _, _ => by simp [argD] at hd
  | .tup _, d, hd, _, _ => by simp [argD] at hd
  | .rp _ _ _ _ _, d, hd, _, _ => by simp [argD] at hd
theorem argDs_rep (h : SimS B g w st) : ∀ {v : List V} {d : List D}, argDs st v = some d → ∀ {u : List Value}, vreps B g w v u → dreps B g.prot w d u
  | [], d, hd, u, hu => by simp only [argDs, Option.some.injEq] at hd; subst hd; simp only [vreps] at hu; simp only [dreps]; exact hu
  | v :: vs, d, hd, u, hu => by
    simp only [argDs] at hd
    split at hd
    · cases hd
    · rename_i x hx
      split at hd
      · cases hd
      · rename_i xs hxs
        cases hd
        simp only [vreps] at hu
        obtain ⟨y, ys, e, k1, k2⟩ := hu
        simp only [dreps]
        exact ⟨y, ys, e, argD_rep h hx k1, argDs_rep h hxs k2⟩
end
end

def evalVs (s : St) : List Operand → Option (List V)
  | [] => some []
  | x :: xs => match evalV s x with
    | none => none
    | some v => (match evalVs s xs with
      | none => none
      | some vs => some (v :: vs))
theorem Sim.evals {cx : Cx} {s : St} {g : G} {a : Act} {w : World} (h : Sim cx g a w s) : ∀ {xs : List Operand} {vs : List V}, evalVs s xs = some vs → vreps cx.B g w vs (xs.map a.eval)
  | [], vs, hv => by simp only [evalVs, Option.some.injEq] at hv; subst hv; simp [vreps]
  | x :: xs, vs, hv => by
    simp only [evalVs] at hv
    split at hv
    · cases hv
    · rename_i v h1
      split at hv
      · cases hv
      · rename_i vs' h2
        cases hv
        simp only [List.map_cons, vreps]
        exact ⟨_, _, rfl, h.eval h1, Sim.evals h h2⟩

/-! ### new rows -/
def G.addRw (g : G) (k : Nat) (u : Value) : G := ⟨g.ex, g.bx, fun i => if i = k then u.ownBlock else g.rb i, fun i v => if i = k then (if v = 0 then some u else none) else g.rw i v⟩
theorem new_row {B : Nat} {g : G} {w w' : World} {nb k : Nat} (hi : Inv B nb g w) (hf : Free g k) (hkn : k < nb) (hw : Below w.heap.size w w') {e : TypeId} {sz : Nat} {l : List (List D)} {u : Value} {xs : List Value}
    (h1 : drepss B (fun b => g.prot b ∧ some b ≠ u.ownBlock) w' l xs) (h2 : (∀ x ∈ l, x.length = sz) ∧ ∀ u ∈ xs, u.oneCell' = true) (h3 : w'.ownsRow w.heap.size e sz u l.length xs) :
    New B g w (g.addRw k u) w' k ∧ SimS B (g.addRw k u) w' [.r true true k 0 e sz l] ∧ Inv B nb (g.addRw k u) w' ∧ vrep B (g.addRw k u) w' (.row k 0) u := by
  have hnew : ∀ b, u.ownBlock = some b → w.heap.size ≤ b ∧ b < w'.heap.size := fun b hb => h3.lt b hb
  have hrw : ∀ {i j v}, g.rw i j = some v → (g.addRw k u).rw i j = some v := fun {i j v} h => by
    simp only [G.addRw]; rw [if_neg (fun e => by subst e; rw [hf.2.2] at h; cases h)]; exact h
  have hown : ∀ b, (g.addRw k u).own b → g.own b ∨ u.ownBlock = some b := fun b ho => by
    rcases ho with ho | ⟨i, hk⟩ | ⟨i, hk⟩
    · exact .inl (.inl ho)
    · exact .inl (.inr (.inl ⟨i, hk⟩))
    · simp only [G.addRw] at hk
      split at hk
      · exact .inr hk
      · exact .inl (.inr (.inr ⟨i, hk⟩))
  have hE : Evo B g w (g.addRw k u) w' := ⟨hw.os, hw.tape, hw.output, hw.size, id, hrw, fun b hb hp => ⟨fun ho => by
    rcases hown b ho with h | h
    · exact hp h
    · have := (hnew b h).1; omega, hw.block b hb⟩, rfl, fun b hb => hw.block b (hi.exlt hb)⟩
  have hone : u.oneCell' = true := by
    rcases h3.2 with ⟨rfl, _⟩ | ⟨b, c, cur, rfl, _⟩ <;> rfl
  have hu : (g.addRw k u).rw k 0 = some u := by simp [G.addRw]
  refine ⟨⟨hE, fun b hb => hw.block b hb, fun i hne => ⟨rfl, by simp [G.addRw, hne], by funext j; simp [G.addRw, hne]⟩⟩, ⟨fun {i o x} hc => by simp [cellAt] at hc, fun {i o nw ver e' sz' l'} hr => ?_, fun hl => by simp [loopAt] at hl⟩, ⟨fun {i b} h => ?_, fun {i b} h => ?_, fun {i j v} h => ?_, hi.bxinj, fun {i i' b} h h' => ?_, fun {i i' b} h h' => ?_, fun h => by have := hi.exlt h; have := hw.size; omega, hi.exbx, fun {i b} h he => ?_, Nat.le_trans hi.base hw.size⟩, by simp only [vrep]; exact ⟨hu, hone⟩⟩
  · simp only [rowAt] at hr
    split at hr
    · rename_i hb
      have := Nat.eq_of_beq_eq_true hb
      subst this
      cases hr
      refine ⟨u, xs, hu, drepss_mono (Nat.le_refl _) (fun b _ hb => ⟨fun ho => ?_, rfl⟩) h1, ⟨h2.1, h2.2, fun j v' hv => (by simp only [G.addRw, if_true] at hv; split at hv <;> first | omega | cases hv)⟩, (fun _ b hb => Nat.le_trans hi.base (hnew b hb).1), .inl ⟨rfl, ownsRow_base h3 (Nat.zero_le _), by simp [G.addRw]⟩⟩
      rcases hown b ho with h | h
      · exact hb.1 h
      · exact hb.2 h.symm
    · cases hr
  · have := hi.bxlt h; have := hw.size; omega
  · simp only [G.addRw] at h
    split at h
    · have := hnew b h; omega
    · have := hi.rblt h; have := hw.size; omega
  · simp only [G.addRw] at h
    split at h
    · omega
    · exact hi.rwlt h
  · simp only [G.addRw] at h h'
    split at h <;> split at h'
    · omega
    · have := hnew b h; have := (hi.rblt h').1; omega
    · have := hnew b h'; have := (hi.rblt h).1; omega
    · exact hi.rbinj h h'
  · simp only [G.addRw] at h'
    split at h'
    · have := hnew b h'; have := (hi.bxlt h).1; omega
    · exact hi.apart h h'
  · simp only [G.addRw] at h
    split at h
    · have := hnew b h; have := hi.exlt he; omega
    · exact hi.exrb h he

def appO : List V → List V → Option (List V)
  | [], l => some l
  | x :: xs, l => match appO xs l with
    | some r => some (x :: r)
    | none => none
theorem appO_spec : ∀ {a b c : List V}, appO a b = some c → c = a ++ b
  | [], b, c, h => by simp only [appO, Option.some.injEq] at h; rw [← h]; rfl
  | x :: xs, b, c, h => by
    simp only [appO] at h
    split at h
    · rename_i r hr; cases h; rw [appO_spec hr]; rfl
    · cases h
/-- a function's value, and what it is handed -/
def fnV : V → List V → Option (FuncId × List V)
  | .fn (.func f) fi ca, vs => (match appO vs ca with
    | some r => (match appO fi r with
      | some q => some (f, q)
      | none => none)
    | none => none)
  | .d (.lit (.func (.func f) ⟨[]⟩ ⟨[]⟩)), vs => some (f, vs)
  | .d (.fn f fi ca), vs => (match appO vs (ca.map .d) with
    | some r => (match appO (fi.map .d) r with
      | some q => some (f, q)
      | none => none)
    | none => none)
  | _, _ => none
theorem fnV_spec {B : Nat} {g : G} {w : World} {v : V} {vs az : List V} {f : FuncId} (h : fnV v vs = some (f, az)) {u : Value} (hu : vrep B g w v u) {us : List Value} (hus : vreps B g w vs us) :
    ∃ first cap, u = .func (.func f) first cap ∧ ∃ zs : List Value, (first ++ us.toArray) ++ cap = zs.toArray ∧ vreps B g w az zs := by
  unfold fnV at h
  split at h
  · rename_i f' fi ca vs'
    split at h
    · rename_i r hr
      split at h
      · rename_i q hq
        cases h
        simp only [vrep] at hu
        obtain ⟨xs, ys, rfl, k1, k2⟩ := hu
        refine ⟨_, _, rfl, xs ++ us ++ ys, by simp, ?_⟩
        rw [appO_spec hq, appO_spec hr, List.append_assoc]
        exact vreps_app k1 (vreps_app hus k2)
      · cases h
    · cases h
  · cases h
    simp only [vrep, drep] at hu
    subst hu
    exact ⟨_, _, rfl, us, by simp, hus⟩
  · rename_i f' fi ca vs'
    split at h
    · rename_i r hr
      split at h
      · rename_i q hq
        cases h
        simp only [vrep, drep] at hu
        obtain ⟨xs, ys, rfl, k1, k2⟩ := hu
        refine ⟨_, _, rfl, xs ++ us ++ ys, by simp, ?_⟩
        rw [appO_spec hq, appO_spec hr, List.append_assoc]
        exact vreps_app (vreps_d k1) (vreps_app hus (vreps_d k2))
      · cases h
    · cases h
  · cases h

theorem call_run {P : Program} {cx : Cx} {s : St} {g : G} {a : Act} {w : World} {dst : Option Tmp} {x : Operand} {xs : Array Operand} {tys : Array TypeId} {ty : TypeId} {pos : String} {af : Array Edge} {gd : Option (Nat × Bool)} {v : V} {f : FuncId} {vs az : List V}
    (hc : ∀ args w, (callFunc f args).run P w = .ok (.enter f args) w) (hS : Sim cx g a w s) (hx : evalV s x = some v) (hv : evalVs s xs.toList = some vs) (hf : fnV v vs = some (f, az)) :
    ∃ zs : List Value, (execOp a.eval ⟨dst, .call { callee := .value x, args := xs, argTypes := tys }, ty, pos, af, gd⟩).run P w = .ok (.enter f zs.toArray) w ∧ vreps cx.B g w az zs := by
  obtain ⟨first, cap, hu, zs, hz, hzs⟩ := fnV_spec hf (hS.eval hx) (hS.evals hv)
  refine ⟨zs, ?_, hzs⟩
  have hx : (xs.toList.map a.eval).toArray = xs.map a.eval := by rw [← Array.toList_map, Array.toArray_toList]
  rw [hx] at hz
  rw [← hz]
  simp [execOp, resolve, hu, Deferred.ofValue, invoke, hc]

/-- data all of whose memory is new -/
class NewD (d : D) : Prop where
  le : ∀ B U w u, drep B U w d u → drep B (fun b => U b ∧ B ≤ b) w d u
class NewDs (d : List D) : Prop where
  le : ∀ B U w u, dreps B U w d u → dreps B (fun b => U b ∧ B ≤ b) w d u
class NewLs (d : List (List D)) : Prop where
  le : ∀ B U w u, drepss B U w d u → drepss B (fun b => U b ∧ B ≤ b) w d u
instance (v : Value) : NewD (.lit v) := ⟨fun _ _ _ _ h => by simp only [drep] at h ⊢; exact h⟩
instance : NewD .any := ⟨fun _ _ _ _ _ => by simp only [drep]⟩
instance : NewDs [] := ⟨fun _ _ _ _ h => by simp only [dreps] at h ⊢; exact h⟩
instance {x : D} {xs : List D} [h : NewD x] [hs : NewDs xs] : NewDs (x :: xs) := ⟨fun B U w u k => by
  simp only [dreps] at k ⊢
  obtain ⟨y, ys, e, k1, k2⟩ := k
  exact ⟨y, ys, e, h.le _ _ _ _ k1, hs.le _ _ _ _ k2⟩⟩
instance {xs : List D} [hs : NewDs xs] : NewD (.agg xs) := ⟨fun B U w u k => by
  simp only [drep] at k ⊢
  obtain ⟨cs, e, k⟩ := k
  exact ⟨cs, e, hs.le _ _ _ _ k⟩⟩
instance {xs : List D} [hs : NewDs xs] : NewD (.tup xs) := ⟨fun B U w u k => by
  simp only [drep] at k ⊢
  obtain ⟨cs, e, k⟩ := k
  exact ⟨cs, e, hs.le _ _ _ _ k⟩⟩
instance {t : TypeId} {x : D} [hs : NewD x] : NewD (.ifc t x) := ⟨fun B U w u k => by
  simp only [drep] at k ⊢
  obtain ⟨y, e, k⟩ := k
  exact ⟨y, e, hs.le _ _ _ _ k⟩⟩
instance {f : FuncId} {xs ys : List D} [hs : NewDs xs] [hs' : NewDs ys] : NewD (.fn f xs ys) := ⟨fun B U w u k => by
  simp only [drep] at k ⊢
  obtain ⟨a, b, e, k1, k2⟩ := k
  exact ⟨a, b, e, hs.le _ _ _ _ k1, hs'.le _ _ _ _ k2⟩⟩
instance {c : Bool} {l : List (List D)} [hs : NewLs l] : NewD (.sl c true l) := ⟨fun B U w u k => by
  simp only [drep] at k ⊢
  obtain ⟨a, cap, cs, e1, e2, e3, e4, e5, e6, e0, e7, e8⟩ := k
  exact ⟨a, cap, cs, e1, e2, e3, e4, e5, e6, e0, e7.imp fun b h => ⟨⟨h.1, by simpa using h.2⟩, h.2⟩, hs.le _ _ _ _ e8⟩⟩
theorem newLs_of {l : List (List D)} (h : ∀ x ∈ l, NewDs x) : NewLs l := ⟨fun B U w u k => by
  induction l generalizing u with
  | nil => simpa only [drepss] using k
  | cons x xs ih =>
    simp only [drepss] at k ⊢
    obtain ⟨c1, c2, e, k1, k2⟩ := k
    exact ⟨c1, c2, e, (h x (by simp)).le _ _ _ _ k1, ih (fun y hy => h y (by simp [hy])) _ k2⟩⟩
instance {c f : Bool} : NewD (.sl c f []) := ⟨fun B U w u k => by
  simp only [drep] at k ⊢
  obtain ⟨a, cap, cs, e1, e2, e3, e4, e5, e6, e0, e7, e8⟩ := k
  simp only [drepss] at e8
  subst e8
  exact ⟨a, cap, [], e1, e2, e3, e4, e5, e6, e0, fun j u hj => by simp at hj, by simp only [drepss]⟩⟩
instance : NewLs [] := newLs_of fun _ h => by simp at h
instance {x : List D} {l : List (List D)} [h : NewDs x] [hs : NewLs l] : NewLs (x :: l) := ⟨fun B U w u k => by
  simp only [drepss] at k ⊢
  obtain ⟨c1, c2, e, k1, k2⟩ := k
  exact ⟨c1, c2, e, h.le _ _ _ _ k1, hs.le _ _ _ _ k2⟩⟩
instance newLs_map {α : Type} (l : List α) (f : α → List D) [h : ∀ x, NewDs (f x)] : NewLs (l.map f) := newLs_of fun x hx => by obtain ⟨n, _, rfl⟩ := List.mem_map.1 hx; exact h n
def NewR : R → Prop
  | .ret d | .panic d => NewD d
  | .own _ _ l => NewLs l

/-- these values are that data, to be handed on -/
structure AD (st : List E) (vs : List V) (ds : List D) : Prop where
  h : ∀ B g w us, SimS B g w st → vreps B g w vs us → dreps B g.prot w ds us
theorem ad_of {st : List E} {vs : List V} {ds : List D} (h : argDs st vs = some ds) : AD st vs ds := ⟨fun _ _ _ _ hs hv => argDs_rep hs h hv⟩
theorem ad_nil {st : List E} : AD st [] [] := ad_of rfl
theorem ad_cons {st : List E} {v : V} {vs : List V} {d : D} {ds : List D} (h : argD st v = some d) (hs : AD st vs ds) : AD st (v :: vs) (d :: ds) := ⟨fun B g w us h1 h2 => by
  simp only [vreps] at h2
  simp only [dreps]
  obtain ⟨y, ys, e, k1, k2⟩ := h2
  exact ⟨y, ys, e, argD_rep h1 h k1, hs.h _ _ _ _ h1 k2⟩⟩
theorem ad_map {st : List E} {ds : List D} : AD st (ds.map .d) ds := ⟨fun B g w us _ h2 => by
  induction ds generalizing us with
  | nil => simp only [List.map_nil, vreps] at h2; simp only [dreps]; exact h2
  | cons d ds ih =>
    simp only [List.map_cons, vreps] at h2
    simp only [dreps]
    obtain ⟨y, ys, e, k1, k2⟩ := h2
    exact ⟨y, ys, e, (by simpa only [vrep] using k1), ih _ k2⟩⟩
section
variable {P : Program} {cx : Cx} {s : St} {Q : VE → St → Prop} {ops rest : List Oper}

/-- a call, whatever it answers -/
theorem vl_call {t : Tmp} {x : Operand} {f : FuncId} {xs : Array Operand} {tys : Array TypeId} {ty : TypeId} {pos : String} {af : Array Edge} {gd : Option (Nat × Bool)} {v : V} {vs az : List V} {ds' ds : List D} {post : R → Prop}
    (hx : evalV s x = some v) (hv : evalVs s xs.toList = some vs) (hf : fnV v vs = some (f, az)) (ha : AD s.st az ds') (hd : DLs ds' ds) (hc : VP P f ds post) (hw : Wd ops s.tm gd) (ht : Nat.blt t cx.N = true)
    (k1 : ∀ d, post (.ret d) → VL P cx ops rest ⟨(t, .d d) :: s.tm, s.st, s.nb⟩ Q) (k2 : ∀ e sz l, post (.own e sz l) → VL P cx ops rest ⟨(t, .row s.nb 0) :: s.tm, (.r true true s.nb 0 e sz l) :: s.st, s.nb + 1⟩ Q)
    (k3 : ∀ d, post (.panic d) → Q (.panic (.d d)) s) : VL P cx ops (⟨some t, .call { callee := .value x, args := xs, argTypes := tys }, ty, pos, af, gd⟩ :: rest) s Q := fun n g0 w0 g a w hE hS => by
  simp only [wplIn]
  rw [if_pos (Wd.wanted (o := ⟨some t, _, ty, pos, af, gd⟩) hS hw)]
  refine ⟨fun _ _ => trivial, ?_⟩
  rw [Oper.semAt_plain (FW cx.rd) _ _ (by intro c e; cases e)]
  obtain ⟨zs, hrun, hzs⟩ := call_run (P := P) (w := w) (dst := some t) (tys := tys) (ty := ty) (pos := pos) (af := af) (gd := gd) hc.1 hS hx hv hf
  rw [hrun, Oper.uponIn_enter]
  refine ⟨(fun h => by cases h), ?_⟩
  have hargs := hd.le _ w.heap.size _ _ _ (ha.h _ _ _ _ hS.st hzs)
  have hcall := hc.2 g.prot w _ hargs
  have hmem : ∀ (r : Ending → World → Prop), Calls P f zs.toArray w r → CallsIn (FW cx.rd) (n - 1) P f zs.toArray w r := fun r h =>
    ⟨trivial, fun cs _ => by
      obtain ⟨e, w', fr, hr, hcm, hx⟩ := h cs
      refine ⟨e, w', fr, hr, ?_, hx⟩
      have := comesIn_wide.2 hcm
      cases e with
      | returned v => exact StepsIn.mono (fun m _ => fenced_FW P cx.rd m) this
      | panicked ch => exact StepsIn.mono (fun m _ => fenced_FW P cx.rd m) this
      | outgrown => exact this⟩
  refine (hmem _ hcall).mono ?_
  rintro e w' ⟨hb, r, hp, hr⟩
  have hEv : Evo cx.B g w g w' := Evo.of_below hS.inv hb
  have hpr : ∀ b, g.prot b ∨ w.heap.size ≤ b → g.prot b := fun b h => by
    rcases h with h | h
    · exact h
    · rintro (ho | ⟨k, ho⟩ | ⟨k, ho⟩)
      · have := hS.inv.exlt ho; omega
      · have := (hS.inv.bxlt ho).1; omega
      · have := (hS.inv.rblt ho).1; omega
  have hst : SimS cx.B g w' s.st := ⟨fun {k o x} hc => by
      obtain ⟨b, rcs, ty, u, m1, m2, m3, m4⟩ := hS.st.cell hc
      exact ⟨b, rcs, ty, u, m1, (hb.block b (hS.inv.bxlt m1).1).trans m2, m3, hEv.vrep m4⟩,
    fun hr => hS.st.keepRow hEv (x := none) ⟨hb.os, hb.tape, hb.output, hb.size, fun b hb' _ => hb.block b hb'⟩ rfl rfl (by simp) hr,
    fun hl => by
      obtain ⟨h1, h2⟩ := hS.st.loop hl
      exact ⟨fun lp e => let ⟨b, m1, m2⟩ := h1 lp e; ⟨b, m1, (hb.block b (hS.inv.bxlt m1).1).trans m2⟩, fun ht => hEv.vrep (h2 ht)⟩⟩
  cases r with
  | ret d =>
    obtain ⟨u, rfl, hu⟩ := hr
    have hu' : vrep cx.B g w' (.d d) u := by simp only [vrep]; exact drep_mono hS.inv.base (fun b _ h => ⟨hpr b h, rfl⟩) hu
    exact k1 d hp n g0 w0 g _ w' (hE.trans hEv) (hS.put hEv (Nat.le_of_ble_eq_true ht) hst (hS.inv.evo hb.size) hu')
  | own e sz l =>
    obtain ⟨u, xs', rfl, h1, h2, h3⟩ := hr
    have hup := hS.inv.up (Nat.le_succ s.nb)
    obtain ⟨m1, m2, m3, m4⟩ := new_row hup hS.inv.free (Nat.lt_succ_self _) hb (drepss_mono hS.inv.base (fun b _ h => ⟨⟨hpr b h.1, h.2⟩, rfl⟩) h1) h2 h3
    exact k2 e sz l hp n g0 w0 _ _ w' (hE.trans m1.evo) (hS.put m1.evo (Nat.le_of_ble_eq_true ht) (m2.cons (hS.st.new m1 hup hS.inv.free)) m3 m4)
  | panic d =>
    obtain ⟨u, rfl, hu⟩ := hr
    have hu' : vrep cx.B g w' (.d d) u := by simp only [vrep]; exact drep_mono hS.inv.base (fun b _ h => ⟨hpr b h, rfl⟩) hu
    exact ⟨g, s, .panic (.d d), hE.trans hEv, hS.same hEv hst (hS.inv.evo hb.size), ⟨u, rfl, hu'⟩, k3 d hp⟩

theorem vl_ret {t : Tmp} {x : Operand} {f : FuncId} {xs : Array Operand} {tys : Array TypeId} {ty : TypeId} {pos : String} {af : Array Edge} {gd : Option (Nat × Bool)} {v : V} {vs az : List V} {ds' ds : List D} {d : D}
    (hc : VP P f ds (· = .ret d)) (hx : evalV s x = some v) (hv : evalVs s xs.toList = some vs) (hf : fnV v vs = some (f, az)) (ha : AD s.st az ds') (hd : DLs ds' ds) (hw : Wd ops s.tm gd) (ht : Nat.blt t cx.N = true)
    (k : VL P cx ops rest ⟨(t, .d d) :: s.tm, s.st, s.nb⟩ Q) : VL P cx ops (⟨some t, .call { callee := .value x, args := xs, argTypes := tys }, ty, pos, af, gd⟩ :: rest) s Q :=
  vl_call hx hv hf ha hd hc hw ht (fun _ e => by cases e; exact k) (fun _ _ _ e => by cases e) (fun _ e => by cases e)
theorem vl_own {t : Tmp} {x : Operand} {f : FuncId} {xs : Array Operand} {tys : Array TypeId} {ty : TypeId} {pos : String} {af : Array Edge} {gd : Option (Nat × Bool)} {v : V} {vs az : List V} {ds' ds : List D} {e : TypeId} {sz : Nat} {l : List (List D)}
    (hc : VP P f ds (· = .own e sz l)) (hx : evalV s x = some v) (hv : evalVs s xs.toList = some vs) (hf : fnV v vs = some (f, az)) (ha : AD s.st az ds') (hd : DLs ds' ds) (hw : Wd ops s.tm gd) (ht : Nat.blt t cx.N = true)
    (k : VL P cx ops rest ⟨(t, .row s.nb 0) :: s.tm, (.r true true s.nb 0 e sz l) :: s.st, s.nb + 1⟩ Q) : VL P cx ops (⟨some t, .call { callee := .value x, args := xs, argTypes := tys }, ty, pos, af, gd⟩ :: rest) s Q :=
  vl_call hx hv hf ha hd hc hw ht (fun _ e => by cases e) (fun _ _ _ e => by cases e; exact k) (fun _ e => by cases e)
theorem vl_pan {t : Tmp} {x : Operand} {f : FuncId} {xs : Array Operand} {tys : Array TypeId} {ty : TypeId} {pos : String} {af : Array Edge} {gd : Option (Nat × Bool)} {v : V} {vs az : List V} {ds' ds : List D} {d : D}
    (hc : VP P f ds (· = .panic d)) (hx : evalV s x = some v) (hv : evalVs s xs.toList = some vs) (hf : fnV v vs = some (f, az)) (ha : AD s.st az ds') (hd : DLs ds' ds) (hw : Wd ops s.tm gd) (ht : Nat.blt t cx.N = true)
    (k : Q (.panic (.d d)) s) : VL P cx ops (⟨some t, .call { callee := .value x, args := xs, argTypes := tys }, ty, pos, af, gd⟩ :: rest) s Q :=
  vl_call hx hv hf ha hd hc hw ht (fun _ e => by cases e) (fun _ _ _ e => by cases e) (fun _ e => by cases e; exact k)
/-- a call whose answer leads to new memory alone: what is handed over is lent -/
theorem vl_lent {t : Tmp} {x : Operand} {f : FuncId} {xs : Array Operand} {tys : Array TypeId} {ty : TypeId} {pos : String} {af : Array Edge} {gd : Option (Nat × Bool)} {v : V} {vs az : List V} {ds' ds : List D} {r : R}
    (hc : VP P f ds (· = r)) (hx : evalV s x = some v) (hv : evalVs s xs.toList = some vs) (hf : fnV v vs = some (f, az)) (ha : lendDs s.st 64 az = some ds') (hd : DLs ds' ds) (hfl : NewR r) (hw : Wd ops s.tm gd) (ht : Nat.blt t cx.N = true)
    (k1 : ∀ d, r = .ret d → VL P cx ops rest ⟨(t, .d d) :: s.tm, s.st, s.nb⟩ Q) (k2 : ∀ e sz l, r = .own e sz l → VL P cx ops rest ⟨(t, .row s.nb 0) :: s.tm, (.r true true s.nb 0 e sz l) :: s.st, s.nb + 1⟩ Q) (k3 : ∀ d, r = .panic d → Q (.panic (.d d)) s) :
    VL P cx ops (⟨some t, .call { callee := .value x, args := xs, argTypes := tys }, ty, pos, af, gd⟩ :: rest) s Q := fun n g0 w0 g a w hE hS => by
  simp only [wplIn]
  rw [if_pos (Wd.wanted (o := ⟨some t, _, ty, pos, af, gd⟩) hS hw)]
  refine ⟨fun _ _ => trivial, ?_⟩
  rw [Oper.semAt_plain (FW cx.rd) _ _ (by intro c e; cases e)]
  obtain ⟨zs, hrun, hzs⟩ := call_run (P := P) (w := w) (dst := some t) (tys := tys) (ty := ty) (pos := pos) (af := af) (gd := gd) hc.1 hS hx hv hf
  rw [hrun, Oper.uponIn_enter]
  refine ⟨(fun h => by cases h), ?_⟩
  have hargs := hd.le _ w.heap.size _ _ _ (lendDs_rep hS.inv hS.st (fun _ _ => trivial) ha hzs)
  have hcall := hc.2 (fun _ => True) w _ hargs
  have hmem : ∀ (r : Ending → World → Prop), Calls P f zs.toArray w r → CallsIn (FW cx.rd) (n - 1) P f zs.toArray w r := fun r h =>
    ⟨trivial, fun cs _ => by
      obtain ⟨e, w', fr, hr, hcm, hx⟩ := h cs
      refine ⟨e, w', fr, hr, ?_, hx⟩
      have := comesIn_wide.2 hcm
      cases e with
      | returned v => exact StepsIn.mono (fun m _ => fenced_FW P cx.rd m) this
      | panicked ch => exact StepsIn.mono (fun m _ => fenced_FW P cx.rd m) this
      | outgrown => exact this⟩
  refine (hmem _ hcall).mono ?_
  rintro e w' ⟨hb, r', rfl, hr⟩
  have hEv : Evo cx.B g w g w' := Evo.of_below hS.inv hb
  have hpr : ∀ b, w.heap.size ≤ b → g.prot b := fun b h => by
    rintro (ho | ⟨k, ho⟩ | ⟨k, ho⟩)
    · have := hS.inv.exlt ho; omega
    · have := (hS.inv.bxlt ho).1; omega
    · have := (hS.inv.rblt ho).1; omega
  have hst : SimS cx.B g w' s.st := ⟨fun {k o x} hc => by
      obtain ⟨b, rcs, ty, u, m1, m2, m3, m4⟩ := hS.st.cell hc
      exact ⟨b, rcs, ty, u, m1, (hb.block b (hS.inv.bxlt m1).1).trans m2, m3, hEv.vrep m4⟩,
    fun hr => hS.st.keepRow hEv (x := none) ⟨hb.os, hb.tape, hb.output, hb.size, fun b hb' _ => hb.block b hb'⟩ rfl rfl (by simp) hr,
    fun hl => by
      obtain ⟨h1, h2⟩ := hS.st.loop hl
      exact ⟨fun lp e => let ⟨b, m1, m2⟩ := h1 lp e; ⟨b, m1, (hb.block b (hS.inv.bxlt m1).1).trans m2⟩, fun ht => hEv.vrep (h2 ht)⟩⟩
  cases r' with
  | ret d =>
    obtain ⟨u, rfl, hu⟩ := hr
    have hu' : vrep cx.B g w' (.d d) u := by simp only [vrep]; exact drep_mono hS.inv.base (fun b _ h => ⟨hpr b h.2, rfl⟩) (NewD.le (self := hfl) _ _ _ _ hu)
    exact k1 d rfl n g0 w0 g _ w' (hE.trans hEv) (hS.put hEv (Nat.le_of_ble_eq_true ht) hst (hS.inv.evo hb.size) hu')
  | own e sz l =>
    obtain ⟨u, xs', rfl, h1, h2, h3⟩ := hr
    have hup := hS.inv.up (Nat.le_succ s.nb)
    obtain ⟨m1, m2, m3, m4⟩ := new_row hup hS.inv.free (Nat.lt_succ_self _) hb (drepss_mono hS.inv.base (fun b _ h => ⟨⟨hpr b h.2, h.1.2⟩, rfl⟩) (NewLs.le (self := hfl) _ _ _ _ h1)) h2 h3
    exact k2 e sz l rfl n g0 w0 _ _ w' (hE.trans m1.evo) (hS.put m1.evo (Nat.le_of_ble_eq_true ht) (m2.cons (hS.st.new m1 hup hS.inv.free)) m3 m4)
  | panic d =>
    obtain ⟨u, rfl, hu⟩ := hr
    have hu' : vrep cx.B g w' (.d d) u := by simp only [vrep]; exact drep_mono hS.inv.base (fun b _ h => ⟨hpr b h.2, rfl⟩) (NewD.le (self := hfl) _ _ _ _ hu)
    exact ⟨g, s, .panic (.d d), hE.trans hEv, hS.same hEv hst (hS.inv.evo hb.size), ⟨u, rfl, hu'⟩, k3 d rfl⟩
end

end Go.Proofs.Ytjfaihpiohccbaa

namespace Go.Proofs.Ytjfaihpiohccbaa
open Go.RowKit

/-- in an integer kind's range -/
def inK : IntKind → Int → Prop
  | .i8, n => -128 ≤ n ∧ n ≤ 127
  | .i16, n => -32768 ≤ n ∧ n ≤ 32767
  | .i32, n => -2147483648 ≤ n ∧ n ≤ 2147483647
  | .i64, n => -9223372036854775808 ≤ n ∧ n ≤ 9223372036854775807
  | .u8, n => 0 ≤ n ∧ n ≤ 255
  | .u16, n => 0 ≤ n ∧ n ≤ 65535
  | .u32, n => 0 ≤ n ∧ n ≤ 4294967295
  | .u64, n => 0 ≤ n ∧ n ≤ 18446744073709551615
theorem wrap_in {k : IntKind} {n : Int} (h : inK k n) : k.wrap n = n := by
  cases k <;> simp only [inK] at h
  · exact IntWalk.i8_in n h
  · exact IntWalk.i16_in n h
  · exact IntWalk.i32_in n h
  · exact IntWalk.i64_in n h
  · exact IntWalk.u8_in n h
  · exact IntWalk.u16_in n h
  · exact IntWalk.u32_in n h
  · exact IntWalk.u64_in n h

section
variable {P : Program} {cx : Cx} {s : St} {Q : VE → St → Prop} {ops rest : List Oper}
abbrev I (k : IntKind) (n : Int) : V := .d (.lit (.int k n))

theorem q_add {t yt ty : TypeId} {x y : Operand} {k : IntKind} {a b : Int} (hx : evalV s x = some (I k a)) (hy : evalV s y = some (I k b)) (h : inK k (a + b)) : OpQ P cx (.binOp .add t x y yt) ty s (I k (a + b)) := by
  refine q_bin hx hy fun w => ?_
  have : (do eqGuard .add t x y (.int k a) (.int k b); binOp .add t (.int k a) (.int k b) : Sem Value) = pure (.int k (k.wrap (a + b))) := by simp [eqGuard, binOp, Op.intArith]
  rw [this, wrap_in h]; rfl
theorem q_sub {t yt ty : TypeId} {x y : Operand} {k : IntKind} {a b : Int} (hx : evalV s x = some (I k a)) (hy : evalV s y = some (I k b)) (h : inK k (a - b)) : OpQ P cx (.binOp .sub t x y yt) ty s (I k (a - b)) := by
  refine q_bin hx hy fun w => ?_
  have : (do eqGuard .sub t x y (.int k a) (.int k b); binOp .sub t (.int k a) (.int k b) : Sem Value) = pure (.int k (k.wrap (a - b))) := by simp [eqGuard, binOp, Op.intArith]
  rw [this, wrap_in h]; rfl
theorem q_mul {t yt ty : TypeId} {x y : Operand} {k : IntKind} {a b : Int} (hx : evalV s x = some (I k a)) (hy : evalV s y = some (I k b)) (h : inK k (a * b)) : OpQ P cx (.binOp .mul t x y yt) ty s (I k (a * b)) := by
  refine q_bin hx hy fun w => ?_
  have : (do eqGuard .mul t x y (.int k a) (.int k b); binOp .mul t (.int k a) (.int k b) : Sem Value) = pure (.int k (k.wrap (a * b))) := by simp [eqGuard, binOp, Op.intArith]
  rw [this, wrap_in h]; rfl
theorem q_eq {t yt ty : TypeId} {x y : Operand} {k : IntKind} {a b : Int} (hx : evalV s x = some (I k a)) (hy : evalV s y = some (I k b)) : OpQ P cx (.binOp .eql t x y yt) ty s (.d (.lit (.bool (decide (a = b))))) := by
  refine q_bin hx hy fun w => ?_
  have : (do eqGuard .eql t x y (.int k a) (.int k b); binOp .eql t (.int k a) (.int k b) : Sem Value) = pure (.bool (decide (a = b))) := by simp [eqGuard, binOp, Op.intCmp]; rfl
  rw [this]; rfl
theorem q_ne {t yt ty : TypeId} {x y : Operand} {k : IntKind} {a b : Int} (hx : evalV s x = some (I k a)) (hy : evalV s y = some (I k b)) : OpQ P cx (.binOp .neq t x y yt) ty s (.d (.lit (.bool (decide (a ≠ b))))) := by
  refine q_bin hx hy fun w => ?_
  have : (do eqGuard .neq t x y (.int k a) (.int k b); binOp .neq t (.int k a) (.int k b) : Sem Value) = pure (.bool (decide (a ≠ b))) := by
    simp only [eqGuard, binOp, Op.intCmp, ne_eq, not_true_eq_false, ↓reduceIte]
    have : (a != b) = decide (a ≠ b) := by by_cases h : a = b <;> simp [h]
    simp [this]
  rw [this]; rfl
theorem q_lt {t yt ty : TypeId} {x y : Operand} {k : IntKind} {a b : Int} (hx : evalV s x = some (I k a)) (hy : evalV s y = some (I k b)) : OpQ P cx (.binOp .lss t x y yt) ty s (.d (.lit (.bool (decide (a < b))))) := by
  refine q_bin hx hy fun w => ?_
  have : (do eqGuard .lss t x y (.int k a) (.int k b); binOp .lss t (.int k a) (.int k b) : Sem Value) = pure (.bool (decide (a < b))) := by simp [eqGuard, binOp, Op.intCmp]
  rw [this]; rfl
theorem q_le {t yt ty : TypeId} {x y : Operand} {k : IntKind} {a b : Int} (hx : evalV s x = some (I k a)) (hy : evalV s y = some (I k b)) : OpQ P cx (.binOp .leq t x y yt) ty s (.d (.lit (.bool (decide (a ≤ b))))) := by
  refine q_bin hx hy fun w => ?_
  have : (do eqGuard .leq t x y (.int k a) (.int k b); binOp .leq t (.int k a) (.int k b) : Sem Value) = pure (.bool (decide (a ≤ b))) := by simp [eqGuard, binOp, Op.intCmp]
  rw [this]; rfl
theorem q_gt {t yt ty : TypeId} {x y : Operand} {k : IntKind} {a b : Int} (hx : evalV s x = some (I k a)) (hy : evalV s y = some (I k b)) : OpQ P cx (.binOp .gtr t x y yt) ty s (.d (.lit (.bool (decide (b < a))))) := by
  refine q_bin hx hy fun w => ?_
  have : (do eqGuard .gtr t x y (.int k a) (.int k b); binOp .gtr t (.int k a) (.int k b) : Sem Value) = pure (.bool (decide (b < a))) := by simp [eqGuard, binOp, Op.intCmp]
  rw [this]; rfl
theorem q_ge {t yt ty : TypeId} {x y : Operand} {k : IntKind} {a b : Int} (hx : evalV s x = some (I k a)) (hy : evalV s y = some (I k b)) : OpQ P cx (.binOp .geq t x y yt) ty s (.d (.lit (.bool (decide (b ≤ a))))) := by
  refine q_bin hx hy fun w => ?_
  have : (do eqGuard .geq t x y (.int k a) (.int k b); binOp .geq t (.int k a) (.int k b) : Sem Value) = pure (.bool (decide (b ≤ a))) := by simp [eqGuard, binOp, Op.intCmp]
  rw [this]; rfl
theorem q_nott {t ty : TypeId} {x : Operand} (hx : evalV s x = some (.d (.lit (.bool true)))) : OpQ P cx (.unOp .not t x) ty s (.d (.lit (.bool false))) := q_un hx fun _ => rfl
theorem q_notf {t ty : TypeId} {x : Operand} (hx : evalV s x = some (.d (.lit (.bool false)))) : OpQ P cx (.unOp .not t x) ty s (.d (.lit (.bool true))) := q_un hx fun _ => rfl
theorem q_not {t ty : TypeId} {x : Operand} {p : Prop} {_ : Decidable p} (hx : evalV s x = some (.d (.lit (.bool (decide p))))) : OpQ P cx (.unOp .not t x) ty s (.d (.lit (.bool (decide (¬ p))))) := by
  refine q_un hx fun w => ?_
  have : (!decide p) = decide (¬ p) := by by_cases h : p <;> simp [h]
  rw [← this]; rfl

theorem q_eqb {t yt ty : TypeId} {x y : Operand} {a b : Bool} [hB : BoolI P t] (hx : evalV s x = some (.d (.lit (.bool a)))) (hy : evalV s y = some (.d (.lit (.bool b)))) : OpQ P cx (.binOp .eql t x y yt) ty s (.d (.lit (.bool (decide (a = b))))) := by
  refine q_bin hx hy fun w => ?_
  have h := run_equal_bool (P := P) (w := w) t a b hB.und
  simp only [eqGuard, binOp, Sem.run_bind, Sem.run_pure]
  simp [h]; rfl
theorem q_neb {t yt ty : TypeId} {x y : Operand} {a b : Bool} [hB : BoolI P t] (hx : evalV s x = some (.d (.lit (.bool a)))) (hy : evalV s y = some (.d (.lit (.bool b)))) : OpQ P cx (.binOp .neq t x y yt) ty s (.d (.lit (.bool (decide (a ≠ b))))) := by
  refine q_bin hx hy fun w => ?_
  have h := run_equal_bool (P := P) (w := w) t a b hB.und
  simp only [eqGuard, binOp, Sem.run_bind, Sem.run_pure]
  simp [h]
  cases a <;> cases b <;> rfl
/-- other operators on numbers, as they are -/
theorem q_bini {op : BinOp} {t yt ty : TypeId} {x y : Operand} {k k' : IntKind} {a b : Int} {u : Value} (hx : evalV s x = some (I k a)) (hy : evalV s y = some (I k' b)) (hr : ∀ w, (binOp op t (.int k a) (.int k' b) : Sem Value).run P w = .ok u w) : OpQ P cx (.binOp op t x y yt) ty s (.d (.lit u)) := by
  refine q_bin hx hy fun w => ?_
  have : (eqGuard op t x y (.int k a) (.int k' b)).run P w = .ok () w := by
    unfold eqGuard
    cases op <;> simp
  rw [Sem.run_bind, this]
  exact hr w
theorem q_convi {t1 t2 ty : TypeId} {x : Operand} {k1 k2 : IntKind} {a : Int} [h1 : IntI P t1 k1] [h2 : IntI P t2 k2] (hx : evalV s x = some (I k1 a)) (h : inK k2 a) : OpQ P cx (.convert t1 t2 x) ty s (I k2 a) := by
  refine q_conv hx fun w => ?_
  simp [convert, run_underlying h1.und w, run_underlying h2.und w, Conv.intToInt, wrap_in h]
theorem q_convw {t1 t2 ty : TypeId} {x : Operand} {k1 k2 : IntKind} {a : Int} [h1 : IntI P t1 k1] [h2 : IntI P t2 k2] (hx : evalV s x = some (I k1 a)) : OpQ P cx (.convert t1 t2 x) ty s (I k2 (k2.wrap a)) := by
  refine q_conv hx fun w => ?_
  simp [convert, run_underlying h1.und w, run_underlying h2.und w, Conv.intToInt]

/-! ### slices -/
theorem run_sizeOf' {w : World} {t : TypeId} {ag : Bool} {sz : Nat} {z : List Value} (hT : TyI P t ag sz z) : (sizeOf t).run P w = .ok sz w := by
  obtain ⟨i, zv, h1, h2, _, _⟩ := hT.size
  simp [sizeOf, typeInfo, h1, h2]
theorem run_sizeOf_e {w : World} {t e : TypeId} {sz by_ : Nat} (hT : Elem P t e sz by_) : (sizeOf e).run P w = .ok sz w := by
  obtain ⟨i, z, h1, h2, h3, h4, h5⟩ := hT.info
  simp [sizeOf, typeInfo, h1, h3]

end

end Go.Proofs.Ytjfaihpiohccbaa

namespace Go.Proofs.Ytjfaihpiohccbaa
open Go.RowKit

def G.setRw (g : G) (k ver : Nat) (u : Value) : G := ⟨g.ex, g.bx, fun i => if i = k then u.ownBlock else g.rb i, fun i v => if i = k ∧ v = ver then some u else g.rw i v⟩

/-- a row turns -/
theorem turn_row {B nb : Nat} {g : G} {w w' : World} (hi : Inv B nb g w) {st : List E} (hs : SimS B g w st) {k ver ver' : Nat} {e e' : TypeId} {sz sz' : Nat} {l l' : List (List D)} {nw : Bool} (hr : rowAt k st = some (true, nw, ver, e, sz, l))
    {v u : Value} (hv : g.rw k ver = some v) (hb : g.rb k = v.ownBlock) (hg : w.grownBy w' v.ownBlock) {xs : List Value} (h1 : drepss B (fun b => g.prot b ∧ some b ≠ u.ownBlock) w' l' xs) (h2 : (∀ x ∈ l', x.length = sz') ∧ ∀ u ∈ xs, u.oneCell' = true)
    (h3 : w'.ownsRow 0 e' sz' u l'.length xs) (hu : ∀ b, u.ownBlock = some b → v.ownBlock = some b ∨ w.heap.size ≤ b) (hver : (ver' = ver ∧ u = v) ∨ ver' = ver + 1) :
    Evo B g w (g.setRw k ver' u) w' ∧ SimS B (g.setRw k ver' u) w' (.r true nw k ver' e' sz' l' :: st) ∧ Inv B nb (g.setRw k ver' u) w' ∧ vrep B (g.setRw k ver' u) w' (.row k ver') u := by
  obtain ⟨v0, xs0, r1, r2, r3, r4, r5⟩ := hs.row hr
  rw [hv] at r1; cases r1
  have hlt : ∀ b, u.ownBlock = some b → b < w'.heap.size := fun b hb' => (h3.lt b hb').2
  have hkn : k < nb := hi.rwlt hv
  have hrw : ∀ {i j x}, g.rw i j = some x → (g.setRw k ver' u).rw i j = some x := fun {i j x} h => by
    simp only [G.setRw]
    split
    · rename_i hc
      obtain ⟨rfl, rfl⟩ := hc
      rcases hver with ⟨rfl, rfl⟩ | hver
      · rw [hv] at h; exact h
      · have := r3.2.2 _ _ h; omega
    · exact h
  have hown : ∀ b, (g.setRw k ver' u).own b → g.own b ∨ (u.ownBlock = some b ∧ w.heap.size ≤ b) := fun b ho => by
    rcases ho with ho | ⟨i, hk⟩ | ⟨i, hk⟩
    · exact .inl (.inl ho)
    · exact .inl (.inr (.inl ⟨i, hk⟩))
    · simp only [G.setRw] at hk
      split at hk
      · rcases hu b hk with h | h
        · exact .inl (.inr (.inr ⟨k, hb.trans h⟩))
        · exact .inr ⟨hk, h⟩
      · exact .inl (.inr (.inr ⟨i, hk⟩))
  have hE : Evo B g w (g.setRw k ver' u) w' := ⟨hg.os, hg.tape, hg.output, hg.size, id, hrw, fun b hb' hp => ⟨fun ho => by
    rcases hown b ho with h | h
    · exact hp h
    · omega, hg.block b hb' fun he => hp (.inr (.inr ⟨k, hb.trans he.symm⟩))⟩, rfl, fun b hb' => hg.block b (hi.exlt hb') fun he => hi.exrb (hb.trans he.symm) hb'⟩
  have hone : u.oneCell' = true := by
    rcases h3.2 with ⟨rfl, _⟩ | ⟨b, c, cur, rfl, _⟩ <;> rfl
  have hu' : (g.setRw k ver' u).rw k ver' = some u := by simp [G.setRw]
  refine ⟨hE, ⟨fun {i o x} hc => ?_, fun {i o nw' vr e2 sz2 l2} hr2 => ?_, fun {i r T tm0} hl => ?_⟩, ⟨fun {i b} h => ?_, fun {i b} h => ?_, fun {i j x} h => ?_, hi.bxinj, fun {i i' b} h h' => ?_, fun {i i' b} h h' => ?_, fun h => by have := hi.exlt h; have := hg.size; omega, hi.exbx, fun {i b} h he => ?_, Nat.le_trans hi.base hg.size⟩, by simp only [vrep]; exact ⟨hu', hone⟩⟩
  · simp only [cellAt] at hc
    obtain ⟨b, rcs, ty, x', m1, m2, m3, m4⟩ := hs.cell hc
    exact ⟨b, rcs, ty, x', m1, (hg.block b (hi.bxlt m1).1 fun he => hi.apart m1 (hb.trans he.symm)).trans m2, m3, hE.vrep m4⟩
  · simp only [rowAt] at hr2
    split at hr2
    · rename_i hbq
      have := Nat.eq_of_beq_eq_true hbq
      subst this
      cases hr2
      refine ⟨u, xs, hu', drepss_mono (Nat.le_refl _) (fun b _ hp => ⟨fun ho => ?_, rfl⟩) h1, ⟨h2.1, h2.2, fun j x hx => ?_⟩, fun hn b hb' => ?_, .inl ⟨rfl, h3, by simp [G.setRw]⟩⟩
      · rcases hown b ho with h | h
        · exact hp.1 h
        · exact hp.2 h.1.symm
      · simp only [G.setRw] at hx
        split at hx
        · rename_i hc; omega
        · have := r3.2.2 _ _ hx
          rcases hver with ⟨h, _⟩ | h <;> omega
      · rcases hu b hb' with h | h
        · exact r4 hn b h
        · exact Nat.le_trans hi.base h
    · rename_i hbq
      have hne : i ≠ k := fun e => by subst e; rw [Nat.beq_refl] at hbq; cases hbq
      exact hs.keepRow hE hg (by simp [G.setRw, hne]) (by funext j; simp [G.setRw, hne]) (fun b hb' he => hne (hi.rbinj hb' (hb.trans he.symm))) hr2
  · simp only [loopAt] at hl
    obtain ⟨h1, h2⟩ := hs.loop hl
    exact ⟨fun lp e => let ⟨b, m1, m2⟩ := h1 lp e; ⟨b, m1, (hg.block b (hi.bxlt m1).1 fun he => hi.apart m1 (hb.trans he.symm)).trans m2⟩, fun ht => hE.vrep (h2 ht)⟩
  · have := hi.bxlt h; have := hg.size; omega
  · simp only [G.setRw] at h
    split at h
    · have := hlt b h; omega
    · have := hi.rblt h; have := hg.size; omega
  · simp only [G.setRw] at h
    split at h
    · omega
    · exact hi.rwlt h
  · simp only [G.setRw] at h h'
    split at h <;> split at h'
    · omega
    · rcases hu b h with h2 | h2
      · have := hi.rbinj (hb.trans h2) h'; omega
      · have := (hi.rblt h').1; omega
    · rcases hu b h' with h2 | h2
      · have := hi.rbinj (hb.trans h2) h; omega
      · have := (hi.rblt h).1; omega
    · exact hi.rbinj h h'
  · simp only [G.setRw] at h'
    split at h'
    · rcases hu b h' with h2 | h2
      · exact hi.apart h (hb.trans h2)
      · have := (hi.bxlt h).1; omega
    · exact hi.apart h h'
  · simp only [G.setRw] at h
    split at h
    · rcases hu b h with h2 | h2
      · exact hi.exrb (hb.trans h2) he
      · have := hi.exlt he; omega
    · exact hi.exrb h he

/-- a row is left to all -/
theorem freeze_row {B nb : Nat} {g : G} {w : World} (hi : Inv B nb g w) {st : List E} (hs : SimS B g w st) {k ver : Nat} {e : TypeId} {sz : Nat} {l : List (List D)} {nw : Bool} (hr : rowAt k st = some (true, nw, ver, e, sz, l)) :
    ∃ g', Evo B g w g' w ∧ SimS B g' w (.r false nw k ver e sz l :: st) ∧ Inv B nb g' w := by
  obtain ⟨v, xs, r1, r2, r3, r4, r5⟩ := hs.row hr
  rcases r5 with ⟨_, r5, r6⟩ | ⟨h, _⟩
  · let g' : G := ⟨g.ex, g.bx, fun i => if i = k then none else g.rb i, g.rw⟩
    have hown : ∀ b, g'.own b → g.own b ∧ v.ownBlock ≠ some b := fun b ho => by
      rcases ho with ho | ⟨i, hk⟩ | ⟨i, hk⟩
      · exact ⟨.inl ho, fun he => hi.exrb (r6.trans he) ho⟩
      · exact ⟨.inr (.inl ⟨i, hk⟩), fun he => hi.apart hk (r6.trans he)⟩
      · simp only [g'] at hk
        split at hk
        · cases hk
        · rename_i hne
          exact ⟨.inr (.inr ⟨i, hk⟩), fun he => hne (hi.rbinj hk (r6.trans he))⟩
    have hE : Evo B g w g' w := ⟨rfl, rfl, rfl, Nat.le_refl _, id, id, fun b _ hp => ⟨fun ho => hp (hown b ho).1, rfl⟩, rfl, fun _ _ => rfl⟩
    refine ⟨g', hE, ⟨fun {i o x} hc => ?_, fun {i o nw' vr e2 sz2 l2} hr2 => ?_, fun {i r T tm0} hl => ⟨(hs.loop hl).1, fun ht => hE.vrep ((hs.loop hl).2 ht)⟩⟩, ⟨hi.bxlt, fun {i b} h => ?_, hi.rwlt, hi.bxinj, fun {i i' b} h h' => ?_, fun {i i' b} h h' => ?_, hi.exlt, hi.exbx, fun {i b} h => ?_, hi.base⟩⟩
    · simp only [cellAt] at hc
      obtain ⟨b, rcs, ty, x', m1, m2, m3, m4⟩ := hs.cell hc
      exact ⟨b, rcs, ty, x', m1, m2, m3, hE.vrep m4⟩
    · simp only [rowAt] at hr2
      split at hr2
      · rename_i hbq
        have := Nat.eq_of_beq_eq_true hbq
        subst this
        cases hr2
        refine ⟨v, xs, r1, hE.drepss r2, r3, r4, .inr ⟨rfl, by simp [g'], ?_⟩⟩
        refine ownsRow_sl (drepss_mono (Nat.le_refl _) (fun b _ hp => ⟨fun ho => hp (hown b ho).1, rfl⟩) r2) r3.1 r3.2.1 r5 r4 fun b hb ho => (hown b ho).2 hb
      · rename_i hbq
        have hne : i ≠ k := fun e => by subst e; rw [Nat.beq_refl] at hbq; cases hbq
        exact hs.keepRow hE (x := none) ⟨rfl, rfl, rfl, Nat.le_refl _, fun _ _ _ => rfl⟩ (by simp [g', hne]) rfl (by simp) hr2
    · simp only [g'] at h
      split at h
      · cases h
      · exact hi.rblt h
    · simp only [g'] at h h'
      split at h
      · cases h
      · split at h'
        · cases h'
        · exact hi.rbinj h h'
    · simp only [g'] at h'
      split at h'
      · cases h'
      · exact hi.apart h h'
    · simp only [g'] at h
      split at h
      · cases h
      · exact hi.exrb h
  · cases h

section
variable {P : Program} {cx : Cx} {s : St} {Q : VE → St → Prop} {ops rest : List Oper}
theorem vl_frz {k : Nat} {nw : Bool} {ver : Nat} {e : TypeId} {sz : Nat} {l : List (List D)} (hr : rowAt k s.st = some (true, nw, ver, e, sz, l)) (h : VL P cx ops rest ⟨s.tm, .r false nw k ver e sz l :: s.st, s.nb⟩ Q) : VL P cx ops rest s Q := fun n g0 w0 g a w hE hS => by
  obtain ⟨g', h1, h2, h3⟩ := freeze_row hS.inv hS.st hr
  exact h n g0 w0 g' a w (hE.trans h1) (hS.same h1 h2 h3)
end

end Go.Proofs.Ytjfaihpiohccbaa

namespace Go.Proofs.Ytjfaihpiohccbaa
open Go.RowKit

/-- what is behind a slice that is read whole -/
inductive SrcV (st : List E) (sz : Nat) : V → List (List D) → Prop where
  | sl {c f : Bool} {l : List (List D)} (h : ∀ x ∈ l, x.length = sz) : SrcV st sz (.d (.sl c f l)) l
  | row {k ver : Nat} {o nw : Bool} {e : TypeId} {l : List (List D)} (h : rowAt k st = some (o, nw, ver, e, sz, l)) : SrcV st sz (.row k ver) l
  | nil : SrcV st sz (.d (.lit (.slice none 0 0))) []

theorem IsSl.of_drep {B : Nat} {U : Nat → Prop} {w : World} {c f : Bool} {l : List (List D)} {u : Value} (h : drep B U w (.sl c f l) u) {sz : Nat} (hz : ∀ x ∈ l, x.length = sz) : ∃ us, IsSl w u l.length us ∧ drepss B U w l us ∧ us.length = l.length * sz ∧ ∀ u ∈ us, u.oneCell' = true := by
  simp only [drep] at h
  obtain ⟨a, cap, cs, e1, e2, e3, e4, e5, ⟨sz', e6⟩, e0, e7, e8⟩ := h
  refine ⟨cs, ⟨a, cap, e1, e2, e3, e5, fun j u hj => ?_⟩, e8, drepss_len hz e8, e0⟩
  obtain ⟨b, o, k1, _, k2⟩ := e7 j u hj
  exact ⟨b, o, k1, k2⟩
theorem SrcV.rep {B : Nat} {g : G} {w : World} {st : List E} (hs : SimS B g w st) {sz : Nat} {v : V} {l : List (List D)} (h : SrcV st sz v l) {u : Value} (hu : vrep B g w v u) : ∃ us, IsSl w u l.length us ∧ drepss B g.prot w l us ∧ us.length = l.length * sz ∧ (∀ u ∈ us, u.oneCell' = true) ∧ ∀ x ∈ l, x.length = sz := by
  cases h with
  | sl h =>
    simp only [vrep] at hu
    obtain ⟨us, h1, h2, h3, h4⟩ := IsSl.of_drep hu h
    exact ⟨us, h1, h2, h3, h4, h⟩
  | row h =>
    simp only [vrep] at hu
    obtain ⟨v, xs, r1, r2, r3, r4, r5⟩ := hs.row h
    rw [hu.1] at r1; cases r1
    rcases r5 with ⟨_, r5, _⟩ | ⟨_, _, r5⟩
    · exact ⟨xs, IsSl.of_own r5, r2, drepss_len r3.1 r2, r3.2.1, r3.1⟩
    · obtain ⟨us, h1, h2, h3, h4⟩ := IsSl.of_drep r5 r3.1
      exact ⟨us, h1, h2, h3, h4, r3.1⟩
  | nil => simp only [vrep, drep] at hu; subst hu; exact ⟨[], IsSl.nil w, by simp only [drepss], by simp, by simp, by simp⟩

section
variable {P : Program} {w : World}
/-- what a growing append makes -/
theorem grown_own {e : TypeId} {size : Nat} {z : Value} {need cap : Nat} {xs : List Value} (hz : z.cells.size = size) (hl : xs.length = need * size) (h1 : need ≤ cap) (h2 : cap ≤ maxLen) :
    (w.drew.alloc (.cells (xs.toArray ++ Builtin.zeroCells z.cells (cap - need)) e)).ownsRow w.heap.size e size (.slice (some ⟨w.heap.size, 0, none⟩) need cap) need xs := by
  refine ⟨hl, .inr ⟨w.heap.size, cap, _, rfl, Nat.le_refl _, heap_alloc_new w.drew _, h1, h2, ?_, ?_⟩⟩
  · simp only [Array.size_append, List.size_toArray, size_zeroCells, hz, hl, ← Nat.add_mul]
    congr 1; omega
  · simp only [Array.toList_append]
    rw [← hl]; exact List.take_left
theorem below_grown (w : World) (o : Obj) : Below w.heap.size w (w.drew.alloc o) := ⟨rfl, rfl, rfl, by simp, fun k hk => Below.heap_alloc w.drew o k hk⟩

theorem run_append_v {t ty e : TypeId} {size bytes : Nat} (hE : Elem P t e size bytes) {v : Value} {n : Nat} {xs : List Value} (hown : w.ownsRow 0 e size v n xs) {x : Value} {m : Nat} {news : List Value} (hsl : IsSl w x m news) (hl : news.length = m * size) (h1 : ∀ u ∈ news, u.oneCell' = true)
    (h63 : n + m ≤ maxLen) (hbytes : (n + m) * bytes ≤ 140737488355328) :
    ∃ v' w', (Builtin.append_ #[t, t] ty #[v, x]).run P w = .ok v' w' ∧ w'.ownsRow 0 e size v' (n + m) (xs ++ news) ∧ w.grownBy w' v.ownBlock ∧ ∀ b, v'.ownBlock = some b → v.ownBlock = some b ∨ w.heap.size ≤ b := by
  obtain ⟨ht, ⟨i, z, hi, hz, rfl, rfl, hzs⟩, hp⟩ := hE
  obtain ⟨ad, c, rfl, hmc, hcm, hnil, hrd⟩ := hsl
  cases ad with
  | none =>
    obtain rfl : c = 0 := hnil rfl
    obtain rfl : m = 0 := by omega
    obtain rfl : news = [] := List.eq_nil_of_length_eq_zero (by simpa using hl)
    exact ⟨v, w, run_append_owned_none w 0 t ty e i i.size ht hi v n xs hown, by simpa using hown, gb_refl _ _, fun b hb => .inl hb⟩
  | some ad =>
    have hsmall : n + m ≤ 9223372036854775807 := by simp only [maxLen] at h63; omega
    have hlen : (xs ++ news).length = (n + m) * i.size := by rw [List.length_append, hown.1, hl, Nat.add_mul]
    by_cases hm : m = 0
    · subst hm
      obtain rfl : news = [] := List.eq_nil_of_length_eq_zero (by simpa using hl)
      have hnews : ∀ (j : Nat) u, ([] : List Value)[j]? = some u → w.cell? (ad.add j) = some u := fun j u hj => by simp at hj
      rcases hown.2 with ⟨rfl, rfl⟩ | ⟨g, cap, cur, rfl, hbg, hg, hnc, hcm', hcs, htake⟩
      · have hx : xs = [] := List.eq_nil_of_length_eq_zero (by simpa using hown.1)
        subst hx
        refine ⟨.slice none 0 0, w, ?_, World.ownsRow_nil w 0 e i.size, gb_refl _ _, fun b hb => by simp [Value.ownBlock] at hb⟩
        simp [Builtin.append_, run_underlying ht, sizeOf, typeInfo, hi, Builtin.lenOf, Builtin.firstCells, loadCells, loadCellsFrom]
      · have hfit : n * i.size + ([] : List Value).length ≤ cur.size := by rw [hcs]; simpa using Nat.mul_le_mul_right _ hnc
        have hr := run_append_room (P := P) w t ty e i ht hi g n cap cur hg ad 0 c [] (by simp) hnews (by simp) (by omega) hfit
        refine ⟨_, _, hr, ⟨hlen, .inr ⟨g, cap, _, rfl, hbg, setRow_heap w g cur _ e _ hg, by omega, hcm', ?_, ?_⟩⟩, grownBy_setRow w g _, fun b hb => .inl hb⟩
        · simp only [List.size_toArray, List.length_append, List.length_take, List.length_drop, Array.length_toList, List.length_nil] at hfit ⊢
          omega
        · rw [htake, ← hlen]
          exact List.take_left
    · have hpos : 0 < news.length := by rw [hl]; exact Nat.mul_pos (by omega) hp
      obtain ⟨b0, o0, e1, _⟩ := hrd 0 news[0] (by simp [hpos])
      cases e1
      have hnews : ∀ (j : Nat) u, news[j]? = some u → w.cell? ((⟨b0, o0, none⟩ : Addr).add j) = some u := fun j u hu => by
        obtain ⟨b', o', e2, hc⟩ := hrd j u hu
        cases e2
        have hadd : (⟨b0, o0, none⟩ : Addr).add j = ⟨b0, o0 + j, none⟩ := by unfold Addr.add; split <;> simp_all
        rw [hadd]; exact hc
      rcases hown.2 with ⟨rfl, rfl⟩ | ⟨g, cap, cur, rfl, hbg, hg, hnc, hcm', hcs, htake⟩
      · have hx : xs = [] := List.eq_nil_of_length_eq_zero (by simpa using hown.1)
        subst hx
        have hr := run_append_nil (P := P) w t ty e i z ht hi hz ⟨b0, o0, none⟩ m c news hl hnews (by omega) (by omega) (by have hb := hbytes; simp only [Nat.zero_add] at hb; omega)
        have hgo := grown_own (w := w) (e := e) hzs hl (grownCap_ge w m 0 e) (grownCap_le_maxLen w m 0 e (by omega))
        refine ⟨_, _, hr, by simpa using ownsRow_base hgo (Nat.zero_le _), ⟨rfl, rfl, rfl, by simp, fun k hk _ => Below.heap_alloc w.drew _ k hk⟩, fun b hb => .inr ?_⟩
        simp [Value.ownBlock] at hb; omega
      · by_cases hroom : n + m ≤ cap
        · have hfit : n * i.size + news.length ≤ cur.size := by rw [hl, hcs, ← Nat.add_mul]; exact Nat.mul_le_mul_right _ hroom
          have hr := run_append_room (P := P) w t ty e i ht hi g n cap cur hg ⟨b0, o0, none⟩ m c news hl hnews h1 hroom hfit
          refine ⟨_, _, hr, ⟨hlen, .inr ⟨g, cap, _, rfl, hbg, setRow_heap w g cur _ e _ hg, hroom, hcm', ?_, ?_⟩⟩, grownBy_setRow w g _, fun b hb => .inl hb⟩
          · simp only [List.size_toArray, List.length_append, List.length_take, List.length_drop, Array.length_toList]
            omega
          · rw [htake, ← hlen]
            exact List.take_left
        · have holds : ∀ (j : Nat) u, xs[j]? = some u → w.cell? ((⟨g, 0, none⟩ : Addr).add j) = some u := hown.cells (g := g) rfl
          have hr := run_append_grow (P := P) w t ty e i z ht hi hz ⟨g, 0, none⟩ n cap xs hown.1 holds ⟨b0, o0, none⟩ m c news hl hnews (by omega) (by omega) (growslice_fits (by omega) hbytes)
          have hgo := grown_own (w := w) (e := e) hzs hlen (grownCap_ge w (n + m) cap e) (grownCap_le_maxLen w (n + m) cap e h63)
          refine ⟨_, _, hr, by simpa using ownsRow_base hgo (Nat.zero_le _), ⟨rfl, rfl, rfl, by simp, fun k hk _ => Below.heap_alloc w.drew _ k hk⟩, fun b hb => .inr ?_⟩
          simp [Value.ownBlock] at hb; omega
end

section
variable {P : Program} {cx : Cx} {s : St} {Q : VE → St → Prop} {ops rest : List Oper}
theorem exec_append {a : Act} {w : World} {x y : Operand} {t ty : TypeId} {u w'} (h : (Builtin.append_ #[t, t] ty #[a.eval x, a.eval y]).run P w = .ok u w') : (execOp a.eval (bare (.call { callee := .builtin .append, args := #[x, y], argTypes := #[t, t] }) ty)).run P w = .ok (.value u) w' := by
  simp [execOp, resolve, invoke, builtin, h]
/-- to a row of its own -/
theorem v_app {t ty e : TypeId} {x y : Operand} {k ver sz by_ : Nat} {l l2 : List (List D)} {nw : Bool} {v2 : V} [hE : SlI P t e sz by_] (hx : evalV s x = some (.row k ver)) (hr : rowAt k s.st = some (true, nw, ver, e, sz, l)) (hy : evalV s y = some v2) (hsrc : SrcV s.st sz v2 l2)
    (hb : (l.length + l2.length) * by_ ≤ 140737488355328) (h0 : 0 < by_) : OpV P cx (.call { callee := .builtin .append, args := #[x, y], argTypes := #[t, t] }) ty s (.row k (ver + 1)) (.r true nw k (ver + 1) e sz (l ++ l2) :: s.st) s.nb := fun g a w hS => by
  have hx' := hS.eval hx
  simp only [vrep] at hx'
  obtain ⟨v, xs, r1, r2, r3, r4, r5⟩ := hS.st.row hr
  rw [hx'.1] at r1; cases r1
  rcases r5 with ⟨_, r5, r6⟩ | ⟨h, _⟩
  · obtain ⟨us, s1, s2, s3, s4, s5⟩ := hsrc.rep hS.st (hS.eval hy)
    have hml : l.length + l2.length ≤ maxLen := by
      have := Nat.le_mul_of_pos_right (l.length + l2.length) h0
      unfold maxLen; omega
    obtain ⟨v', w', hrun, h1, h2, h3⟩ := run_append_v (ty := ty) hE.elem r5 s1 s3 s4 hml hb
    have hold : ∀ b, b < w.heap.size → g.prot b → (g.prot b ∧ some b ≠ v'.ownBlock) ∧ w'.heap[b]? = w.heap[b]? := fun b hb' hp => by
      refine ⟨⟨hp, fun he => ?_⟩, h2.block b hb' fun he => hp (.inr (.inr ⟨k, r6.trans he.symm⟩))⟩
      rcases h3 b he.symm with h | h
      · exact hp (.inr (.inr ⟨k, r6.trans h⟩))
      · omega
    obtain ⟨m1, m2, m3, m4⟩ := turn_row hS.inv hS.st hr hx'.1 r6 h2 (drepss_app (drepss_mono (Nat.le_refl _) hold r2) (drepss_mono (Nat.le_refl _) hold s2))
      ⟨fun x hx => (List.mem_append.1 hx).elim (r3.1 x) (s5 x), fun u hu => (List.mem_append.1 hu).elim (r3.2.1 u) (s4 u)⟩ (by rw [List.length_append]; exact h1) h3 (.inr rfl)
    exact ⟨v', _, w', exec_append hrun, m1, m2, m3, m4⟩
  · cases h
/-- to nothing -/
theorem r_appn {t ty e : TypeId} {x y : Operand} {sz by_ k : Nat} {l2 : List (List D)} {v2 : V} {tm : List (Nat × V)} {st : List E} [hE : SlI P t e sz by_] (hx : evalV ⟨tm, st, 0⟩ x = some (.d (.lit (.slice none 0 0)))) (hy : evalV ⟨tm, st, 0⟩ y = some v2) (hsrc : SrcV st sz v2 l2)
    (hb : l2.length * by_ ≤ 140737488355328) (h0 : 0 < by_) : OpR P cx (.call { callee := .builtin .append, args := #[x, y], argTypes := #[t, t] }) ty tm st (.row k 0) k (.r true true k 0 e sz l2) := fun nb g a w hk hf hS => by
  have hx : evalV ⟨tm, st, nb⟩ x = some (.d (.lit (.slice none 0 0))) := by cases x <;> exact hx
  have hy : evalV ⟨tm, st, nb⟩ y = some v2 := by cases y <;> exact hy
  have hx' := hS.eval hx
  simp only [vrep, drep] at hx'
  obtain ⟨us, s1, s2, s3, s4, s5⟩ := hsrc.rep hS.st (hS.eval hy)
  have hml : 0 + l2.length ≤ maxLen := by
    have := Nat.le_mul_of_pos_right l2.length h0
    unfold maxLen; omega
  have h00 : w.ownsRow 0 e sz (a.eval x) 0 [] := by rw [hx']; exact World.ownsRow_nil w 0 e sz
  obtain ⟨v', w', hrun, h1, h2, h3⟩ := run_append_v (ty := ty) hE.elem h00 s1 s3 s4 hml (by rw [Nat.zero_add]; exact hb)
  rw [hx'] at h2 h3
  simp only [Value.ownBlock] at h2 h3
  have hbel : Below w.heap.size w w' := ⟨h2.os, h2.tape, h2.output, h2.size, fun b hb' => h2.block b hb' (by simp)⟩
  have hown : w'.ownsRow w.heap.size e sz v' l2.length us := by
    simp only [Nat.zero_add, List.nil_append] at h1
    refine ⟨h1.1, ?_⟩
    rcases h1.2 with h | ⟨gb, cap, cur, hv', _, rest⟩
    · exact .inl h
    · refine .inr ⟨gb, cap, cur, hv', ?_, rest⟩
      rcases h3 gb (by rw [hv']) with h | h
      · cases h
      · exact h
  obtain ⟨m1, m2, m3, m4⟩ := new_row hS.inv hf hk hbel (e := e) (sz := sz) (drepss_mono (Nat.le_refl _) (fun b hb' hp => ⟨⟨hp, fun he => by have := (hown.lt b he.symm).1; omega⟩, hbel.block b hb'⟩) s2) ⟨s5, s4⟩ hown
  exact ⟨v', _, w', exec_append hrun, m1, m2, m3, m4⟩
/-! ### to a slice with no room -/
theorem run_append_full {t ty e : TypeId} {size bytes : Nat} {w : World} (hE : Elem P t e size bytes) {a : Option Addr} {n : Nat} {xs : List Value} (hsl0 : IsSl w (.slice a n n) n xs) (hl0 : xs.length = n * size) {x : Value} {m : Nat} {news : List Value} (hsl : IsSl w x m news) (hl : news.length = m * size)
    (hm : 0 < m) (h63 : n + m ≤ maxLen) (hbytes : (n + m) * bytes ≤ 140737488355328) :
    ∃ v' w', (Builtin.append_ #[t, t] ty #[.slice a n n, x]).run P w = .ok v' w' ∧ w'.ownsRow w.heap.size e size v' (n + m) (xs ++ news) ∧ Below w.heap.size w w' := by
  obtain ⟨ht, ⟨i, z, hi, hz, rfl, rfl, hzs⟩, hp⟩ := hE
  obtain ⟨ad, c, rfl, hmc, hcm, hnil, hrd⟩ := hsl
  obtain ⟨a', c', e1, _, _, hnil0, hrd0⟩ := hsl0
  cases e1
  have hsmall : n + m ≤ 9223372036854775807 := by simp only [maxLen] at h63; omega
  have hlen : (xs ++ news).length = (n + m) * i.size := by rw [List.length_append, hl0, hl, Nat.add_mul]
  have hpos : 0 < news.length := by rw [hl]; exact Nat.mul_pos hm hp
  have hreads : ∀ {a : Option Addr} {cs : List Value}, Reads w a cs → ∀ b, a = some b → ∀ (j : Nat) u, cs[j]? = some u → w.cell? (b.add j) = some u := fun {a cs} h b hb j u hu => by
    obtain ⟨b', o', e2, hc⟩ := h j u hu
    rw [hb] at e2; cases e2
    have hadd : (⟨b', o', none⟩ : Addr).add j = ⟨b', o' + j, none⟩ := by unfold Addr.add; split <;> simp_all
    rw [hadd]; exact hc
  obtain ⟨b0, o0, e1, _⟩ := hrd 0 news[0] (by simp [hpos])
  have hnews := hreads hrd _ e1
  subst e1
  cases a with
  | none =>
    obtain rfl : n = 0 := hnil0 rfl
    obtain rfl : xs = [] := List.eq_nil_of_length_eq_zero (by simpa using hl0)
    have hr := run_append_nil (P := P) w t ty e i z ht hi hz ⟨b0, o0, none⟩ m c news hl hnews hm (by omega) (by have hb := hbytes; simp only [Nat.zero_add] at hb; omega)
    have hgo := grown_own (w := w) (e := e) hzs hl (grownCap_ge w m 0 e) (grownCap_le_maxLen w m 0 e (by omega))
    exact ⟨_, _, hr, by simpa using hgo, below_grown w _⟩
  | some b =>
    have hr := run_append_grow (P := P) w t ty e i z ht hi hz b n n xs hl0 (hreads hrd0 b rfl) ⟨b0, o0, none⟩ m c news hl hnews (by omega) (by omega) (growslice_fits (by omega) hbytes)
    have hgo := grown_own (w := w) (e := e) hzs hlen (grownCap_ge w (n + m) n e) (grownCap_le_maxLen w (n + m) n e h63)
    exact ⟨_, _, hr, by simpa using hgo, below_grown w _⟩
/-- what is clipped -/
inductive ClipV (st : List E) (sz : Nat) : V → List (List D) → Prop where
  | sl {f : Bool} {l : List (List D)} (hz : ∀ x ∈ l, x.length = sz) : ClipV st sz (.d (.sl true f l)) l
  | rv {k ver n e : Nat} {nw : Bool} {l : List (List D)} (hr : rowAt k st = some (true, nw, ver, e, sz, l)) (hn : n ≤ l.length) : ClipV st sz (.rv k ver n) (l.take n)
theorem ClipV.rep {B : Nat} {g : G} {w : World} {st : List E} (hs : SimS B g w st) {sz : Nat} {v : V} {l : List (List D)} (h : ClipV st sz v l) {u : Value} (hu : vrep B g w v u) :
    ∃ a us, u = .slice a l.length l.length ∧ IsSl w u l.length us ∧ drepss B g.prot w l us ∧ us.length = l.length * sz ∧ (∀ u ∈ us, u.oneCell' = true) ∧ ∀ x ∈ l, x.length = sz := by
  cases h with
  | sl hz =>
    simp only [vrep] at hu
    have hu0 := hu
    obtain ⟨us, h1, h2, h3, h4⟩ := IsSl.of_drep hu hz
    simp only [drep] at hu0
    obtain ⟨a, cap, cs, e1, _, _, e4, _⟩ := hu0
    have := e4 trivial
    subst this
    exact ⟨a, us, e1, h1, h2, h3, h4, hz⟩
  | @rv k ver n e nw l hr hn =>
    simp only [vrep] at hu
    obtain ⟨a, m, c, k1, rfl⟩ := hu
    obtain ⟨v, xs, r1, r2, r3, r4, r5⟩ := hs.row hr
    rw [k1] at r1; cases r1
    have hlen : (l.take n).length = n := by simp [hn]
    rcases r5 with ⟨_, r5, r6⟩ | ⟨h, _⟩
    · obtain ⟨a', c', e1, q2, q3, q4, q5⟩ := IsSl.of_own r5
      cases e1
      have hp := drepss_part r3.1 r2 n
      refine ⟨a, xs.take (n * sz), by rw [hlen], ⟨a, n, by rw [hlen], by rw [hlen]; exact Nat.le_refl _, by omega, fun h => by have := q4 h; omega, q5.take _⟩, hp.1, ?_, fun u hu => r3.2.1 u (List.mem_of_mem_take hu), fun x hx => r3.1 x (List.mem_of_mem_take hx)⟩
      rw [hlen, List.length_take, r5.1]
      exact Nat.min_eq_left (Nat.mul_le_mul_right _ hn)
    · cases h
theorem r_appc {t ty e : TypeId} {x y : Operand} {sz by_ k : Nat} {l l2 : List (List D)} {v v2 : V} {tm : List (Nat × V)} {st : List E} [hE : SlI P t e sz by_] (hx : evalV ⟨tm, st, 0⟩ x = some v) (hc : ClipV st sz v l) (hy : evalV ⟨tm, st, 0⟩ y = some v2) (hsrc : SrcV st sz v2 l2)
    (hm : 0 < l2.length) (hb : (l.length + l2.length) * by_ ≤ 140737488355328) (h0 : 0 < by_) : OpR P cx (.call { callee := .builtin .append, args := #[x, y], argTypes := #[t, t] }) ty tm st (.row k 0) k (.r true true k 0 e sz (l ++ l2)) := fun nb g a w hk hf hS => by
  have hx : evalV ⟨tm, st, nb⟩ x = some v := by cases x <;> exact hx
  have hy : evalV ⟨tm, st, nb⟩ y = some v2 := by cases y <;> exact hy
  obtain ⟨ad, us0, q1, q2, q3, q4, q5, q6⟩ := hc.rep hS.st (hS.eval hx)
  obtain ⟨us, s1, s2, s3, s4, s5⟩ := hsrc.rep hS.st (hS.eval hy)
  have hml : l.length + l2.length ≤ maxLen := by
    have := Nat.le_mul_of_pos_right (l.length + l2.length) h0
    unfold maxLen; omega
  rw [q1] at q2
  obtain ⟨v', w', hrun, h1, hbel⟩ := run_append_full (ty := ty) hE.elem q2 q4 s1 s3 hm hml hb
  rw [← q1] at hrun
  have hold : ∀ b, b < w.heap.size → g.prot b → (g.prot b ∧ some b ≠ v'.ownBlock) ∧ w'.heap[b]? = w.heap[b]? := fun b hb' hp => ⟨⟨hp, fun he => by have := (h1.lt b he.symm).1; omega⟩, hbel.block b hb'⟩
  obtain ⟨m1, m2, m3, m4⟩ := new_row hS.inv hf hk hbel (e := e) (sz := sz) (drepss_app (drepss_mono (Nat.le_refl _) hold q3) (drepss_mono (Nat.le_refl _) hold s2)) ⟨fun x hx => (List.mem_append.1 hx).elim (q6 x) (s5 x), fun u hu => (List.mem_append.1 hu).elim (q5 u) (s4 u)⟩ (by rw [List.length_append]; exact h1)
  exact ⟨v', _, w', exec_append hrun, m1, m2, m3, m4⟩
end

end Go.Proofs.Ytjfaihpiohccbaa

namespace Go.Proofs.Ytjfaihpiohccbaa
open Go.RowKit

/-- a slice that nobody writes to -/
def slV (st : List E) : V → Option (Bool × Bool × List (List D))
  | .d (.sl c f l) => some (c, f, l)
  | .row k ver => match rowAt k st with
    | some (o, nw, v, _, _, l) => (match o with
      | true => none
      | false => (match Nat.beq ver v with
        | true => some (false, nw, l)
        | false => none))
    | none => none
  | _ => none
/-- how long a slice is -/
def lenV (st : List E) : V → Option Nat
  | .d (.sl _ _ l) => some l.length
  | .d (.lit v) => match v with
    | .slice none 0 0 => some 0
    | _ => none
  | .row k ver => match rowAt k st with
    | some (_, _, v, _, _, l) => (match Nat.beq ver v with
      | true => some l.length
      | false => none)
    | none => none
  | _ => none
section
variable {B : Nat} {g : G} {w : World} {st : List E}
theorem slV_rep (h : SimS B g w st) {v : V} {c f : Bool} {l : List (List D)} (hv : slV st v = some (c, f, l)) {u : Value} (hu : vrep B g w v u) : drep B g.prot w (.sl c f l) u := by
  unfold slV at hv
  split at hv
  · cases hv; simp only [vrep] at hu; exact hu
  · split at hv
    · rename_i o nw v' e sz l' hr
      cases o with
      | true => simp at hv
      | false =>
        simp only at hv
        split at hv
        · rename_i hb
          have := Nat.eq_of_beq_eq_true hb
          subst this
          cases hv
          simp only [vrep] at hu
          obtain ⟨v', xs, h1, h2, h3, _, h4⟩ := h.row hr
          rw [hu.1] at h1; cases h1
          rcases h4 with ⟨h4, _⟩ | ⟨_, h4, h5⟩
          · cases h4
          · exact h5
        · cases hv
    · cases hv
  · cases hv
theorem lenV_rep (h : SimS B g w st) {v : V} {n : Nat} (hv : lenV st v = some n) {u : Value} (hu : vrep B g w v u) : ∃ a cap, u = .slice a n cap := by
  unfold lenV at hv
  split at hv
  · cases hv
    simp only [vrep, drep] at hu
    obtain ⟨a, cap, cs, e, _⟩ := hu
    exact ⟨a, cap, e⟩
  · split at hv
    · cases hv; simp only [vrep, drep] at hu; exact ⟨none, 0, hu⟩
    · cases hv
  · split at hv
    · rename_i o nw v' e sz l' hr
      split at hv
      · rename_i hb
        have := Nat.eq_of_beq_eq_true hb
        subst this
        cases hv
        simp only [vrep] at hu
        obtain ⟨v', xs, h1, h2, h3, _, h4⟩ := h.row hr
        rw [hu.1] at h1; cases h1
        rcases h4 with ⟨_, h4, _⟩ | ⟨_, _, h4⟩
        · rcases h4.2 with ⟨rfl, h5⟩ | ⟨gb, cap, cur, rfl, _⟩
          · exact ⟨none, 0, by rw [h5]⟩
          · exact ⟨_, cap, rfl⟩
        · simp only [drep] at h4
          obtain ⟨a, cap, cs, e, _⟩ := h4
          exact ⟨a, cap, e⟩
      · cases hv
    · cases hv
  · cases hv
end

section
variable {P : Program} {cx : Cx} {s : St} {Q : VE → St → Prop} {ops rest : List Oper}
theorem q_len {t ty e : TypeId} {x : Operand} {v : V} {n sz by_ : Nat} [hE : SlI P t e sz by_] (hx : evalV s x = some v) (hn : lenV s.st v = some n) : OpQ P cx (.call { callee := .builtin .len, args := #[x], argTypes := #[t] }) ty s (I .i64 (n : Int)) := fun g a w hS => by
  obtain ⟨ad, cap, h⟩ := lenV_rep hS.st hn (hS.eval hx)
  refine ⟨.int .i64 n, ?_, by simp only [vrep, drep]⟩
  simp [execOp, resolve, invoke, builtin, Builtin.len_, h, run_underlying hE.elem.und w, goInt]
theorem q_min {ty : TypeId} {x y : Operand} {tys : Array TypeId} {k : IntKind} {a b : Int} (hx : evalV s x = some (I k a)) (hy : evalV s y = some (I k b)) : OpQ P cx (.call { callee := .builtin .min, args := #[x, y], argTypes := tys }) ty s (I k (min a b)) := fun g ac w hS => by
  have h1 := hS.eval hx
  have h2 := hS.eval hy
  simp only [vrep, drep] at h1 h2
  refine ⟨.int k (min a b), ?_, by simp only [vrep, drep]⟩
  have : (if b < a then b else a) = min a b := by simp only [Int.min_def]; split <;> split <;> omega
  simp [execOp, resolve, invoke, builtin, Builtin.min_, Builtin.min2, h1, h2, this]
theorem q_max {ty : TypeId} {x y : Operand} {tys : Array TypeId} {k : IntKind} {a b : Int} (hx : evalV s x = some (I k a)) (hy : evalV s y = some (I k b)) : OpQ P cx (.call { callee := .builtin .max, args := #[x, y], argTypes := tys }) ty s (I k (max a b)) := fun g ac w hS => by
  have h1 := hS.eval hx
  have h2 := hS.eval hy
  simp only [vrep, drep] at h1 h2
  refine ⟨.int k (max a b), ?_, by simp only [vrep, drep]⟩
  have : (if a < b then b else a) = max a b := by simp only [Int.max_def]; split <;> split <;> omega
  simp [execOp, resolve, invoke, builtin, Builtin.max_, Builtin.max2, h1, h2, this]
theorem q_ext {x : Operand} {ty : TypeId} {i : Nat} {l : List V} {v : V} (hx : evalV s x = some (.tup l)) (hl : l[i]? = some v) : OpQ P cx (.extract x i) ty s v := fun g a w hS => by
  have h1 := hS.eval hx
  simp only [vrep] at h1
  obtain ⟨cs, h1, h2⟩ := h1
  obtain ⟨u, k1, k2⟩ := vreps_get h2 hl
  exact ⟨u, by simp [execOp, Instr.extract, h1, k1], k2⟩
theorem q_extd {x : Operand} {ty : TypeId} {i : Nat} {l : List D} {v : D} (hx : evalV s x = some (.d (.tup l))) (hl : l[i]? = some v) : OpQ P cx (.extract x i) ty s (.d v) := fun g a w hS => by
  have h1 := hS.eval hx
  simp only [vrep, drep] at h1
  obtain ⟨cs, h1, h2⟩ := h1
  obtain ⟨u, k1, k2⟩ := dreps_get h2 hl
  exact ⟨u, by simp [execOp, Instr.extract, h1, k1], by simp only [vrep]; exact k2⟩
theorem q_mkf {ty : TypeId} {fn : Fn} {fi ca : Array Operand} {v1 v2 : List V} (h1 : evalVs s fi.toList = some v1) (h2 : evalVs s ca.toList = some v2) : OpQ P cx (.makeFunc fn fi ca) ty s (.fn fn v1 v2) := fun g a w hS => by
  have k1 := hS.evals h1
  have k2 := hS.evals h2
  refine ⟨.func fn (fi.map a.eval) (ca.map a.eval), by simp [execOp, Instr.makeFunc], ?_⟩
  simp only [vrep]
  exact ⟨_, _, by rw [← Array.toList_map, ← Array.toList_map, Array.toArray_toList, Array.toArray_toList], k1, k2⟩

theorem q_mki {t ty : TypeId} {x : Operand} {v : V} [ht : NIfI P t] (hx : evalV s x = some v) : OpQ P cx (.makeInterface t x) ty s (.ifc t v) := fun g a w hS => by
  obtain ⟨d, h1, h2⟩ := Option.map_eq_some_iff.1 ht.und
  refine ⟨.iface t (a.eval x), ?_, by simp only [vrep]; exact ⟨_, rfl, hS.eval hx⟩⟩
  have : (Instr.makeInterface t (a.eval x)).run P w = .ok (.iface t (a.eval x)) w := by
    unfold Instr.makeInterface
    rw [Sem.run_bind, run_underlying h1 w]
    cases d <;> simp_all [ifcD]
  simp [execOp, this]
theorem p_panic {x : Operand} {ty t : TypeId} {v : V} (hx : evalV s x = some (.ifc t v)) : OpP P cx (.panic x) ty s (.ifc t v) := fun g a w hS => by
  have h1 := hS.eval hx
  have h0 := h1
  simp only [vrep] at h1
  obtain ⟨y, h1, h2⟩ := h1
  exact ⟨a.eval x, by simp [execOp, Instr.panic, h1, goPanic, Sem.run], h0⟩
theorem p_panicd {x : Operand} {ty t : TypeId} {v : D} (hx : evalV s x = some (.d (.ifc t v))) : OpP P cx (.panic x) ty s (.d (.ifc t v)) := fun g a w hS => by
  have h1 := hS.eval hx
  have h0 := h1
  simp only [vrep, drep] at h1
  obtain ⟨y, h1, h2⟩ := h1
  exact ⟨a.eval x, by simp [execOp, Instr.panic, h1, goPanic, Sem.run], h0⟩

/-! ### addresses of elements -/
/-- an element's address -/
theorem q_idx {t ty e : TypeId} {x y : Operand} {k : IntKind} {i : Int} {v : V} {c f : Bool} {l : List (List D)} {sz by_ : Nat} {cs : List D} [hE : SlI P t e sz by_] (hx : evalV s x = some v) (hv : slV s.st v = some (c, f, l)) (hy : evalV s y = some (I k i)) (h0 : 0 ≤ i) (hl : l[i.toNat]? = some cs) (hc : cs.length = sz) :
    OpQ P cx (.indexAddr t x y) ty s (.ep cs) := fun g a w hS => by
  have h1 := slV_rep hS.st hv (hS.eval hx)
  have h2 := hS.eval hy
  simp only [vrep, drep] at h1 h2
  obtain ⟨ad, cap, us, h1, e2, e3, e4, e5, ⟨sz', e6⟩, e0, e7, e8⟩ := h1
  have hlt := (List.getElem?_eq_some_iff.1 hl).1
  obtain rfl : sz' = sz := by rw [← hc]; exact (e6 cs (List.mem_of_getElem? hl)).symm
  have hpos := hE.elem.pos
  have hd := drepss_get e6 e8 hl
  have hulen := drepss_len e6 e8
  have hd' : ∃ u, us[i.toNat * sz']? = some u := by
    have : i.toNat * sz' < us.length := by rw [hulen]; exact (Nat.mul_lt_mul_right hpos).2 hlt
    exact ⟨us[i.toNat * sz'], List.getElem?_eq_getElem this⟩
  obtain ⟨u0, hu0⟩ := hd'
  obtain ⟨b, o, rfl, _, _⟩ := e7 _ u0 hu0
  have hadd : (⟨b, o, none⟩ : Addr).add (i.toNat * sz') = ⟨b, o + i.toNat * sz', none⟩ := by unfold Addr.add; split <;> simp_all
  refine ⟨.pointer (some ⟨b, o + i.toNat * sz', none⟩), ?_, ?_⟩
  · have hi : (i < (l.length : Int)) := by omega
    simp [execOp, h1, h2, Instr.indexAt, asIntOf, run_underlying hE.elem.und w, run_sizeOf_e hE.elem, h0, hi, hadd]
  · simp only [vrep]
    refine ⟨b, o + i.toNat * sz', _, rfl, fun j u hj => ?_, hd⟩
    rw [List.getElem?_take] at hj
    split at hj
    · rw [List.getElem?_drop] at hj
      obtain ⟨b', o', e, hp, hcell⟩ := e7 _ u hj
      cases e
      exact ⟨b, _, rfl, hp.1, by rw [Nat.add_assoc]; exact hcell⟩
    · cases hj
theorem q_idxp {t ty e : TypeId} {x y : Operand} {k0 : IntKind} {i : Int} {k off n sz : Nat} [hA : ArrI P t n e sz] (hx : evalV s x = some (.ptr k off)) (hy : evalV s y = some (I k0 i)) (h0 : 0 ≤ i) (h1 : i < (n : Int)) : OpQ P cx (.indexAddr t x y) ty s (.ptr k (off + i.toNat * sz)) := fun g a w hS => by
  have hx' := hS.eval hx
  have hy' := hS.eval hy
  simp only [vrep, drep] at hx' hy'
  obtain ⟨b, hb, hx'⟩ := hx'
  obtain ⟨hu, ie, hie, hsz⟩ := hA.get
  have hadd : (⟨b, off, none⟩ : Addr).add (i.toNat * sz) = ⟨b, off + i.toNat * sz, none⟩ := by unfold Addr.add; split <;> simp_all
  refine ⟨.pointer (some ⟨b, off + i.toNat * sz, none⟩), ?_, by simp only [vrep]; exact ⟨b, hb, rfl⟩⟩
  have hs : (sizeOf e).run P w = .ok sz w := by simp [sizeOf, typeInfo, hie, hsz]
  simp [execOp, hx', hy', Instr.indexAt, asIntOf, run_underlying hu w, hs, h0, h1, hadd, Instr.sureAddr]
theorem q_idxr {t ty e e' : TypeId} {x y : Operand} {k0 : IntKind} {i : Int} {k ver sz by_ : Nat} {nw : Bool} {l : List (List D)} [hE : SlI P t e sz by_] (hx : evalV s x = some (.row k ver)) (hy : evalV s y = some (I k0 i)) (hr : rowAt k s.st = some (true, nw, ver, e', sz, l)) (h0 : 0 ≤ i) (h1 : i < (l.length : Int)) :
    OpQ P cx (.indexAddr t x y) ty s (.rp k ver sz i.toNat 0) := fun g a w hS => by
  have hx' := hS.eval hx
  have hy' := hS.eval hy
  simp only [vrep, drep] at hx' hy'
  obtain ⟨v, xs, r1, r2, r3, r4, r5⟩ := hS.st.row hr
  rw [hx'.1] at r1; cases r1
  rcases r5 with ⟨_, r5, _⟩ | ⟨h, _⟩
  · rcases r5.2 with ⟨_, h5⟩ | ⟨b, cap, cur, h5, _⟩
    · omega
    · have hadd : (⟨b, 0, none⟩ : Addr).add (i.toNat * sz) = ⟨b, i.toNat * sz, none⟩ := by unfold Addr.add; split <;> simp_all
      refine ⟨.pointer (some ⟨b, i.toNat * sz, none⟩), ?_, ?_⟩
      · simp [execOp, h5, hy', Instr.indexAt, asIntOf, run_underlying hE.elem.und w, run_sizeOf_e hE.elem, h0, h1, hadd]
      · simp only [vrep]
        exact ⟨b, l.length, cap, by rw [hx'.1, h5], rfl⟩
  · cases h

/-! ### rows: loads and stores -/
theorem row_elem {B : Nat} {g : G} {w : World} {st : List E} (hs : SimS B g w st) {k ver : Nat} {nw : Bool} {e : TypeId} {sz : Nat} {l : List (List D)} (hr : rowAt k st = some (true, nw, ver, e, sz, l)) {i j : Nat} {cs : List D} (hl : l[i]? = some cs) {b n c : Nat} (hv : g.rw k ver = some (.slice (some ⟨b, 0, none⟩) n c)) :
    ∃ cur us, w.heap[b]? = some (.cells cur e (0, 0)) ∧ dreps B g.prot w (cs.drop j) us ∧ (∀ (m : Nat) u, us[m]? = some u → cur[i * sz + j + m]? = some u) ∧ (i + 1) * sz ≤ cur.size ∧ cs.length = sz := by
  obtain ⟨v, xs, r1, r2, r3, r4, r5⟩ := hs.row hr
  rw [hv] at r1; cases r1
  rcases r5 with ⟨_, r5, _⟩ | ⟨h, _⟩
  · rcases r5.2 with ⟨h5, _⟩ | ⟨b', cap, cur, h5, _, hh, hn, _, hsz, ht⟩
    · cases h5
    · cases h5
      have hd := drepss_get r3.1 r2 hl
      have hlt := (List.getElem?_eq_some_iff.1 hl).1
      have hcs := r3.1 cs (List.mem_of_getElem? hl)
      have hlen := dreps_len hd
      refine ⟨cur, (((xs.drop (i * sz)).take sz).drop j), hh, ?_, fun m u hm => ?_, ?_, hcs⟩
      · refine dreps_mk (by simp at hlen ⊢; omega) fun m x y hx hy => ?_
        rw [List.getElem?_drop] at hx hy
        obtain ⟨y', e1, k1⟩ := dreps_get hd hx
        rw [hy] at e1; cases e1; exact k1
      · rw [List.getElem?_drop, List.getElem?_take] at hm
        split at hm
        · rw [List.getElem?_drop] at hm
          rw [← ht, List.getElem?_take] at hm
          split at hm
          · rw [Nat.add_assoc]; simpa using hm
          · cases hm
        · cases hm
      · rw [hsz]; exact Nat.mul_le_mul_right _ (by omega)
  · cases h
theorem q_loadr {t ty e : TypeId} {x : Operand} {k ver sz i j sz1 : Nat} {z : List Value} {nw : Bool} {l : List (List D)} {cs : List D} {d : D} [hT : TyI P t false sz1 z] (hx : evalV s x = some (.rp k ver sz i j)) (hr : rowAt k s.st = some (true, nw, ver, e, sz, l)) (hl : l[i]? = some cs) (hd : cs[j]? = some d) : OpQ P cx (.load t x) ty s (.d d) := fun g a w hS => by
  have hx' := hS.eval hx
  simp only [vrep] at hx'
  obtain ⟨b, n, c, h1, h2⟩ := hx'
  obtain ⟨cur, us, k1, k2, k3, _⟩ := row_elem hS.st hr (j := j) hl h1
  obtain ⟨u, m1, m2⟩ := dreps_get k2 (i := 0) (x := d) (by rw [List.getElem?_drop]; simpa using hd)
  refine ⟨u, ?_, by simp only [vrep]; exact m2⟩
  have := run_loadVar_leaf (P := P) (hT := hT) (w := w) (a := ⟨b, i * sz + j, none⟩) (u := u) (by rw [cell_of_row w b _ cur e (0, 0) k1]; exact k3 0 u m1)
  simp [execOp, h2, Instr.loadAt, Instr.sureAddr, this]
theorem q_loadrs {t ty e : TypeId} {x : Operand} {k ver sz i j sz1 : Nat} {z : List Value} {nw : Bool} {l : List (List D)} {cs : List D} [hT : TyI P t true sz1 z] (hx : evalV s x = some (.rp k ver sz i j)) (hr : rowAt k s.st = some (true, nw, ver, e, sz, l)) (hl : l[i]? = some cs) (hd : j + sz1 ≤ cs.length) : OpQ P cx (.load t x) ty s (.agg (((cs.drop j).take sz1).map .d)) := fun g a w hS => by
  have hx' := hS.eval hx
  simp only [vrep] at hx'
  obtain ⟨b, n, c, h1, h2⟩ := hx'
  obtain ⟨cur, us, k1, k2, k3, _⟩ := row_elem hS.st hr (j := j) hl h1
  have hlen := dreps_len k2
  refine ⟨.agg (us.take sz1).toArray, ?_, ?_⟩
  · have := run_loadVar_agg (P := P) (hT := hT) (w := w) (b := b) (o := i * sz + j) (us := us.take sz1) (by simp at hlen ⊢; omega) (fun m u hm => by
      rw [List.getElem?_take] at hm
      split at hm
      · rw [cell_of_row w b _ cur e (0, 0) k1]; exact k3 m u hm
      · cases hm)
    simp [execOp, h2, Instr.loadAt, Instr.sureAddr, this]
  · simp only [vrep]
    refine ⟨_, rfl, vreps_d ?_⟩
    refine dreps_mk (by simp at hlen ⊢; omega) fun m x y hx hy => ?_
    rw [List.getElem?_take] at hx hy
    split at hx
    · rename_i hlt
      rw [if_pos hlt] at hy
      obtain ⟨y', e1, q1⟩ := dreps_get k2 hx
      rw [hy] at e1; cases e1; exact q1
    · cases hx
end

end Go.Proofs.Ytjfaihpiohccbaa
