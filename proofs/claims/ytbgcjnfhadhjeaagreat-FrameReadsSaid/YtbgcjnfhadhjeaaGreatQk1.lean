/- Walks by data and names, part 1: General small lemmas of this place's proofs: bytes and colours as values, blocks, slices that read as rows. Small laws of walks inside a fence (ranges over functions): a scope that is entered straight; a block that lies as it lay. Slices as rows of cells; append in one law. -/
import Derived.Test.YtbgcjnfhadhjeaaGreatChecked
import Derived.WalkKit
import Derived.Lib.Hide
import Derived.BigQuiet
import Derived.Deep.QuietTactic
import Derived.Deep.RegionWith
import Derived.Deep.DeepCutAuto
import Derived.Deep.LoopGhost
import Derived.Outline
import Derived.RangeFuncNested
import Derived.RangeFuncBound
import Derived.RangeFuncCalls
import Derived.RangeFuncLeaves
import Derived.RangeFuncBox
import Derived.Shelf.Abstract
import Derived.Shelf.RegionOpen
import Derived.OwnWalkIn
import Derived.TacticsInMore
import Derived.LoopNIn
import Derived.LoopIn
import Derived.WalkMore
import Derived.Maps.AppendAt
import Derived.WalkSpells
namespace Go.Proofs.YtbgcjnfhadhjeaaGreat
set_option maxRecDepth 20000
open Go.RowKit
abbrev vb (x : UInt8) : Value := .int .u8 x.toNat
structure BO where
 r : UInt8
 g : UInt8
 b : UInt8
 a : UInt8
deriving DecidableEq, Repr, Inhabited
abbrev BO.cells (c : BO) : Array Value := #[vb c.r, vb c.g, vb c.b, vb c.a]
def Ie (w : World) (b : Nat) (cs : Array Value) (t : TypeId) : Prop := w.heap[b]? = some (.cells cs t (0, 0))
theorem Ie.cell {w : World} {b : Nat} {cs : Array Value} {t : TypeId} (h : Ie w b cs t) (j : Nat) : w.cell? ⟨b, j, none⟩ = cs[j]? := cell_of_row w b j cs t (0, 0) h
theorem Ie.frozen {w : World} {b : Nat} {cs : Array Value} {t : TypeId} (h : Ie w b cs t) (j : Nat) : w.frozen? ⟨b, j, none⟩ = false := frozen_of_row w b j cs t h
theorem Ie.lt {w : World} {b : Nat} {cs : Array Value} {t : TypeId} (h : Ie w b cs t) : b < w.heap.size := (Array.getElem?_eq_some_iff.1 h).1
theorem Ie.all {w : World} {b : Nat} {cs : Array Value} {t : TypeId} (h : Ie w b cs t) : (∀ j, w.cell? ⟨b, j, none⟩ = cs[j]?) ∧ (∀ j, w.frozen? ⟨b, j, none⟩ = false) ∧ b < w.heap.size := ⟨h.cell, h.frozen, h.lt⟩
theorem Ie.new (w : World) (cs : Array Value) (t : TypeId) : Ie (w.alloc (.cells cs t)) w.heap.size cs t := heap_alloc_new w _
theorem Ie.alloc {w : World} {b : Nat} {cs : Array Value} {t : TypeId} (h : Ie w b cs t) (o : Obj) : Ie (w.alloc o) b cs t := (Below.heap_alloc w o b h.lt).trans h
theorem Ie.below {w w' : World} {B b : Nat} {cs : Array Value} {t : TypeId} (h : Ie w b cs t) (hb : Below B w w') (hB : b < B) : Ie w' b cs t := (hb.block b hB).trans h
theorem Ie.drew {w : World} {b : Nat} {cs : Array Value} {t : TypeId} (h : Ie w b cs t) : Ie w.drew b cs t := h
theorem Ie.set {w : World} {b : Nat} {cs : Array Value} {t : TypeId} (h : Ie w b cs t) (i : Nat) (v : Value) : Ie (w.setCell ⟨b, i, none⟩ v) b (cs.setIfInBounds i v) t := heap_setCell_same w b i cs t v h
theorem Ie.grown {w w' : World} {b : Nat} {cs : Array Value} {t : TypeId} {row : Option Nat} (h : Ie w b cs t) (hg : w.grownBy w' row) (hne : some b ≠ row) : Ie w' b cs t := (hg.block b h.lt hne).trans h
theorem SR {P : Program} {ops : Array Oper} {Q : Exit → Act → World → Prop} {rest : List Oper} {a : Act} {w : World} {o : Oper} {v : Value} {w' : World}
  (hw : Region.wanted o (yielded ops a.tmps) = true) (hrun : (execOp a.eval o).run P w = .ok (.value v) w') (h : wpList P ops Q rest (a.put o.dst v) w') : wpList P ops Q (o :: rest) a w := by
 refine wpList_step fun K hK => ?_
 rw [if_pos hw]
 unfold Oper.wp
 rw [hrun]
 exact hK _ _ h
theorem KA (w : World) (row : Option Nat) : w.grownBy w row := ⟨rfl, rfl, rfl, Nat.le_refl _, fun _ _ _ => rfl⟩

open Go.RowKit Go.Shelf
theorem DU {P : Program} {b : Frame} {a : Act} {k : List Item} {cs : List Frame} {w : World} {c : Code} :
  step P (lone (b.atR a (.code (.scope c) :: k)) cs w) = .next (lone (b.atR a (.code c :: .inScope c :: k)) cs w) :=
 step_lone_go (by simp [stepG, stepG.exec, Frame.atR])
theorem Mf {P : Program} {b : Frame} {a : Act} {k : List Item} {cs : List Frame} {w : World} {c : Code} :
  step P (lone (b.atR a (.inScope c :: k)) cs w) = .next (lone (b.atR a k) cs w) :=
 step_lone_go (by simp [stepG, stepG.exec, Frame.atR])
theorem H6 {F : Fence} {n : Nat} {P : Program} {Q : Exit → Act → World → Prop} {a : Act} {w : World} {c : Code} (h : c.wpIn F n P (Exit.noGoto Q) a w) : (Code.scope c).wpIn F n P Q a w := by
 intro b k cs hro hb hr
 have h0 : (lone (b.atR a (.code (.scope c) :: k)) cs w).fenced P F := fenced_calm hb hr rfl
 obtain ⟨e, a₁, w₁, hq, harr⟩ := h b (.inScope c :: k) cs hro hb hr
 cases e with
 | normal => exact ⟨.normal, a₁, w₁, hq, .head h0 DU (StepsIn.trans harr (.one (fenced_calm hb hr rfl) Mf))⟩
 | exit id =>
  have hx : exitTo id (.inScope c :: k) = exitTo id k := by simp [exitTo]
  exact ⟨.exit id, a₁, w₁, hq, fun k' hk => .head h0 DU (harr.1 k' (by rw [hx]; exact hk)),
   fun hr' hk => let ⟨k₁, h1, h2⟩ := harr.2 hr' (by rw [hx]; exact hk); ⟨k₁, h1, .head h0 DU h2⟩⟩
 | goto l => exact hq.elim
 | ret => exact ⟨_, a₁, w₁, hq, .of_steps (.one h0 DU) harr⟩
 | panic ch => exact ⟨_, a₁, w₁, hq, .of_steps (.one h0 DU) harr⟩
 | outgrown => exact ⟨_, a₁, w₁, hq, .of_steps (.one h0 DU) harr⟩
theorem E7 {w : World} {base base' : Nat} {e : TypeId} {size : Nat} {v : Value} {n : Nat} {xs : List Value} (h : w.ownsRow base e size v n xs) (hle : base' ≤ base) : w.ownsRow base' e size v n xs := by
 refine ⟨h.1, ?_⟩
 rcases h.2 with h2 | ⟨g, cap, cur, hv, hg, r⟩
 ·exact .inl h2
 ·exact .inr ⟨g, cap, cur, hv, Nat.le_trans hle hg, r⟩

def Gs (w : World) (a : Option Addr) (cs : List Value) : Prop := ∀ j u, cs[j]? = some u → ∃ b o, a = some ⟨b, o, none⟩ ∧ w.cell? ⟨b, o + j, none⟩ = some u
def Df (w : World) (v : Value) (n : Nat) (cs : List Value) : Prop := ∃ a c, v = .slice a n c ∧ n ≤ c ∧ c ≤ maxLen ∧ (a = none → c = 0) ∧ Gs w a cs
theorem Gs.below {w w' : World} {a : Option Addr} {cs : List Value} (h : Gs w a cs) (hb : Below w.heap.size w w') : Gs w' a cs := fun j u hu => by
 obtain ⟨b, o, rfl, hc⟩ := h j u hu
 exact ⟨b, o, rfl, (hb.cell (p := ⟨b, o + j, none⟩) (World.block_lt_of_cell? w _ hc)).trans hc⟩
theorem Df.below {w w' : World} {v : Value} {n : Nat} {cs : List Value} (h : Df w v n cs) (hb : Below w.heap.size w w') : Df w' v n cs := by
 obtain ⟨a, c, h1, h2, h3, h4, h5⟩ := h
 exact ⟨a, c, h1, h2, h3, h4, h5.below hb⟩
theorem Gs.take {w : World} {a : Option Addr} {cs : List Value} (h : Gs w a cs) (k : Nat) : Gs w a (cs.take k) := fun j u hu => by
 rw [List.getElem?_take] at hu; split at hu
 ·exact h j u hu
 ·cases hu
theorem Gs.nil (w : World) (a : Option Addr) : Gs w a [] := fun j u hu => by simp at hu
theorem Df.nil (w : World) : Df w (.slice none 0 0) 0 [] := ⟨none, 0, rfl, Nat.le_refl _, by unfold maxLen; omega, fun _ => rfl, Gs.nil _ _⟩
def Mc (w : World) (b : Nat) : Nat → List Value → Prop
 | _, [] => True
 | o, x :: xs => w.cell? ⟨b, o, none⟩ = some x ∧ Mc w b (o + 1) xs
theorem Mc.get {w : World} {b : Nat} : ∀ {o : Nat} {xs : List Value}, Mc w b o xs → ∀ j u, xs[j]? = some u → w.cell? ⟨b, o + j, none⟩ = some u
 | _, [], _, j, u, h => by simp at h
 | o, x :: xs, ⟨h0, h⟩, 0, u, hu => by simp at hu; subst hu; exact h0
 | o, x :: xs, ⟨_, h⟩, j + 1, u, hu => by
  have := Mc.get h j u (by simpa using hu)
  rw [show o + (j + 1) = o + 1 + j from by omega]
  exact this
theorem Df.lit {w : World} {b n c : Nat} {xs : List Value} (h : Mc w b 0 xs) (hn : n ≤ c) (hc : c ≤ maxLen) : Df w (.slice (some ⟨b, 0, none⟩) n c) n xs :=
 ⟨_, c, rfl, hn, hc, by simp, fun j u hu => ⟨b, 0, rfl, h.get j u hu⟩⟩
theorem Df.new {W : World} {n k : Nat} {cs : Array Value} {t : TypeId} (hn : n = W.heap.size) (hk : k ≤ maxLen) : Df (W.alloc (.cells cs t)) (.slice (some ⟨n, 0, none⟩) k k) k cs.toList := by
 subst hn
 refine ⟨_, k, rfl, Nat.le_refl _, hk, by simp, fun j u hu => ⟨_, 0, rfl, ?_⟩⟩
 rw [Nat.zero_add, World.cell?_alloc_new]
 simpa using hu
theorem Df.of_own {w : World} {base : Nat} {e : TypeId} {size : Nat} {v : Value} {n : Nat} {xs : List Value} (h : w.ownsRow base e size v n xs) : Df w v n xs := by
 rcases h.2 with ⟨rfl, rfl⟩ | ⟨g, cap, cur, rfl, _, hg, hnc, hcm, hcs, htake⟩
 ·have : xs = [] := List.eq_nil_of_length_eq_zero (by simpa using h.1)
  subst this
  exact Df.nil w
 ·refine ⟨_, cap, rfl, hnc, hcm, by simp, fun j u hu => ⟨g, 0, rfl, ?_⟩⟩
  rw [Nat.zero_add, cell_of_row w g j cur e (0, 0) hg]
  rw [← htake, List.getElem?_take] at hu
  split at hu
  ·simpa using hu
  ·cases hu
structure G4 (P : Program) (t e : TypeId) (size bytes : Nat) : Prop where
 und : P.underlying t = some (.slice e)
 info : ∃ i z, P.info? e = some i ∧ i.zero = some z ∧ i.size = size ∧ i.bytes = bytes ∧ z.cells.size = size
 pos : 0 < size
theorem G4.mk' {P : Program} {t e : TypeId} {size bytes : Nat} {z : Value} (h : P.underlying t = some (.slice e)) (hi : (P.info? e).map (fun i => (i.zero, i.size, i.bytes)) = some (some z, size, bytes)) (hz : z.cells.size = size) (hp : 0 < size) : G4 P t e size bytes := by
 obtain ⟨i, a, b, c, d⟩ := info_parts hi
 exact ⟨h, ⟨i, z, a, b, c, d, hz⟩, hp⟩
theorem Z2 {w : World} {base : Nat} {e : TypeId} {size : Nat} {v : Value} {n : Nat} {xs : List Value} (h : w.ownsRow base e size v n xs) {b : Nat} (hb : b < base) : some b ≠ v.ownBlock := fun e' => by
 have := (h.lt b e'.symm).1
 omega
theorem Ie.append {w w1 : World} {base b : Nat} {e t : TypeId} {size : Nat} {v : Value} {n : Nat} {xs : List Value} {cs : Array Value} (h : Ie w b cs t) (hr : w.ownsRow base e size v n xs) (hg : w.grownBy w1 v.ownBlock) (hb : b < base) : Ie w1 b cs t := h.grown hg (Z2 hr hb)
def FO (w : World) (v : Value) (l : List UInt8) : Prop := Df w v l.length (l.map vb)
def AcF (base : Nat) (w : World) (v : Value) (l : List UInt8) : Prop := w.ownsRow base 5 1 v l.length (l.map vb)
theorem AcF.bytes {base : Nat} {w : World} {v : Value} {l : List UInt8} (h : AcF base w v l) : FO w v l := Df.of_own h
theorem FO.below {w w' : World} {v : Value} {l : List UInt8} (h : FO w v l) (hb : Below w.heap.size w w') : FO w' v l := Df.below h hb
theorem JB (l : List UInt8) : ∀ u ∈ l.map vb, u.oneCell' = true := by
 intro u hu
 obtain ⟨x, _, rfl⟩ := List.mem_map.1 hu
 rfl

end Go.Proofs.YtbgcjnfhadhjeaaGreat