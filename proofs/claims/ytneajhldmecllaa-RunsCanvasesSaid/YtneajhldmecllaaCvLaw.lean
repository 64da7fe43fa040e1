/- gessolaw10.RunsCanvases: words, and contracts in one form. -/
import Derived.Test.YtneajhldmecllaaRefApply
import Derived.Test.YtneajhldmecllaaRefPatch
import Derived.Test.YtneajhldmecllaaRefSame
import Derived.Test.YtneajhldmecllaaSpoil
import Derived.Test.YtneajhldmecllaaPatchLaw
namespace Go.Proofs.Ytneajhldmecllaa
open Go.RowKit

theorem KBut.belowT {S : Nat → Prop} {w w1 w2 : World} {B : Nat} (h : KBut S w w1) (hb : Below B w1 w2) (hB : w.heap.size ≤ B) : KBut S w w2 :=
  ⟨hb.os.trans h.os, hb.tape.trans h.tape, hb.output.trans h.output, Nat.le_trans h.size hb.size, fun k hk hn => (hb.block k (by omega)).trans (h.block k hk hn)⟩
theorem KBut.setRowT {S : Nat → Prop} {w w1 : World} {n : Nat} (h : KBut S w w1) (hn : S n) (cs : Array Value) : KBut S w (w1.setRow n cs) :=
  ⟨h.os, h.tape, h.output, by simpa using h.size, fun k hk hs => (setRow_other w1 n k cs (fun e => hs (by rw [e]; exact hn))).trans (h.block k hk hs)⟩
theorem KBut.refl (S : Nat → Prop) (w : World) : KBut S w w := ⟨rfl, rfl, rfl, Nat.le_refl _, fun _ _ _ => rfl⟩

theorem IsSl.kbut {S : Nat → Prop} {w w' : World} {v : Value} {n : Nat} {cs : List Value} (h : IsSl w v n cs) (hk : KBut S w w') (hS : ∀ k, S k → ∃ cs' t, Blk w k cs' t ∧ noB cs') (hc : ∀ u ∈ cs, ∃ x : UInt8, u = vb x) : IsSl w' v n cs := by
  obtain ⟨a, c, h1, h2, h3, h4, h5⟩ := h
  refine ⟨a, c, h1, h2, h3, h4, fun j u hu => ?_⟩
  obtain ⟨b, o, e, hb⟩ := h5 j u hu
  refine ⟨b, o, e, ?_⟩
  have hlt := World.block_lt_of_cell? w _ hb
  refine (World.cell?_of_block (w := w) (hk.block b hlt fun hs => ?_)).trans hb
  obtain ⟨cs', t, hblk, hn⟩ := hS b hs
  obtain ⟨x, rfl⟩ := hc u (List.mem_of_getElem? hu)
  rw [hblk.cell] at hb
  exact hn (o + j) x hb

structure CvInv (w W : World) (x y x2 y2 : Int) (sx sy zv : Value) (L1 L2 : List (List Col)) (z : List UInt8) (p q : Nat) (s t : Value) (A B : List (List Col)) : Prop where
  bel : Below w.heap.size w W
  kx : Blk W w.heap.size #[.int .i64 x, .int .i64 y, sx] 43
  ky : Blk W (w.heap.size + 1) #[.int .i64 x2, .int .i64 y2, sy] 43
  tx : Tiles W sx L1
  ty : Tiles W sy L2
  bz : Bytes W zv z
  k7 : Blk W p #[.int .i64 x, .int .i64 y, s] 43
  k8 : Blk W q #[.int .i64 x2, .int .i64 y2, t] 43
  tA : Tiles W s A
  tB : Tiles W t B
theorem CvInv.below {w W W' : World} {x y x2 y2 : Int} {sx sy zv : Value} {L1 L2 : List (List Col)} {z : List UInt8} {p q : Nat} {s t : Value} {A B : List (List Col)} (h : CvInv w W x y x2 y2 sx sy zv L1 L2 z p q s t A B) (hb : Below W.heap.size W W') : CvInv w W' x y x2 y2 sx sy zv L1 L2 z p q s t A B :=
  ⟨Below.up h.bel hb, Blk.up h.kx hb, Blk.up h.ky hb, h.tx.below hb, h.ty.below hb, h.bz.below hb, Blk.up h.k7 hb, Blk.up h.k8 hb, h.tA.below hb, h.tB.below hb⟩
theorem CvInv.kbut {S : Nat → Prop} {w W W' : World} {x y x2 y2 : Int} {sx sy zv : Value} {L1 L2 : List (List Col)} {z : List UInt8} {p q : Nat} {s t : Value} {A B : List (List Col)} (h : CvInv w W x y x2 y2 sx sy zv L1 L2 z p q s t A B) (hb : KBut S W W')
    (hS : ∀ k, S k → ∃ cs' t, Blk W k cs' t ∧ noB cs') (h1 : ∀ k, S k → w.heap.size + 2 ≤ k ∧ k ≠ p ∧ k ≠ q) : CvInv w W' x y x2 y2 sx sy zv L1 L2 z p q s t A B := by
  have hs := h.bel.size
  refine ⟨h.bel.trans (hb.below hs fun k hk => by have := (h1 k hk).1; omega), (hb.block _ h.kx.lt fun hk => by have := (h1 _ hk).1; omega).trans h.kx, (hb.block _ h.ky.lt fun hk => by have := (h1 _ hk).1; omega).trans h.ky,
    ⟨h.tx.1, h.tx.2.kbut hb hS (tlc_vb _)⟩, ⟨h.ty.1, h.ty.2.kbut hb hS (tlc_vb _)⟩, IsSl.kbut h.bz hb hS ?_, (hb.block _ h.k7.lt fun hk => (h1 _ hk).2.1 rfl).trans h.k7, (hb.block _ h.k8.lt fun hk => (h1 _ hk).2.2 rfl).trans h.k8,
    ⟨h.tA.1, h.tA.2.kbut hb hS (tlc_vb _)⟩, ⟨h.tB.1, h.tB.2.kbut hb hS (tlc_vb _)⟩⟩
  intro u hu
  obtain ⟨b, _, rfl⟩ := List.mem_map.1 hu
  exact ⟨b, rfl⟩

/-- some canvas lies in a variable -/
def CanB (W : World) (p : Nat) : Prop := ∃ (x y : Int) (a : Option Addr) (n c : Nat), Blk W p #[.int .i64 x, .int .i64 y, .slice a n c] 43
theorem CanB.noB {W : World} {p : Nat} (h : CanB W p) : ∃ cs' t, Blk W p cs' t ∧ noB cs' := by
  obtain ⟨x, y, a, n, c, hb⟩ := h
  exact ⟨_, _, hb, fun j x => by rcases j with _ | _ | _ | j <;> simp⟩
theorem CanB.below {W W' : World} {p : Nat} (h : CanB W p) (hb : Below W.heap.size W W') : CanB W' p := by
  obtain ⟨x, y, a, n, c, h1⟩ := h
  exact ⟨x, y, a, n, c, Blk.up h1 hb⟩
theorem CanB.lt {W : World} {p : Nat} (h : CanB W p) : p < W.heap.size := by
  obtain ⟨x, y, a, n, c, h1⟩ := h
  exact h1.lt

/-- what Apply answers -/
def appOf (ok : Bool) (r : Option (Nat × Nat × List (List Col) × Nat)) : Int × Int × List (List Col) × Int × Int :=
  match ok, r with
  | true, some (x, y, A, k) => (x, y, A, k, 0)
  | true, none => (0, 0, [], 0, 200)
  | false, _ => (0, 0, [], 0, 150)
theorem c_apply_gen (x y : Int) (ov bv : Value) (O : List (List Col)) (l : List UInt8) (w : World) (hO : Tiles w ov O) (hb : Bytes w bv l) (dx dy : Int) (dA : List (List Col)) (dn de : Int) (hd : appOf (canOk x y O.length) (readApp x.toNat y.toNat O l) = (dx, dy, dA, dn, de)) :
    Calls Try.prog 28 #[canV x y ov, bv] w fun e w' => ∃ a c, e = .returned (.tuple #[canV dx dy (.slice a dA.length c), .int .i64 dn, .int .i64 de]) ∧ OwnT w.heap.size w' (.slice a dA.length c) dA ∧ Below w.heap.size w w' := by
  refine (apply_any x y ov bv O l w hO hb).mono ?_
  rintro e w' ⟨hB, he⟩
  cases hok : canOk x y O.length <;> cases hr : readApp x.toNat y.toNat O l
  · rw [hok, hr] at he hd
    simp only [appOf, Prod.mk.injEq] at hd
    obtain ⟨rfl, rfl, rfl, rfl, rfl⟩ := hd
    exact ⟨none, 0, he, ⟨by simp [All64], World.ownsRow_nil _ _ _ _⟩, hB⟩
  · rename_i p
    obtain ⟨a, b, A, k⟩ := p
    rw [hok, hr] at he hd
    simp only [appOf, Prod.mk.injEq] at hd
    obtain ⟨rfl, rfl, rfl, rfl, rfl⟩ := hd
    exact ⟨none, 0, he, ⟨by simp [All64], World.ownsRow_nil _ _ _ _⟩, hB⟩
  · rw [hok, hr] at he hd
    simp only [appOf, Prod.mk.injEq] at hd
    obtain ⟨rfl, rfl, rfl, rfl, rfl⟩ := hd
    exact ⟨none, 0, he, ⟨by simp [All64], World.ownsRow_nil _ _ _ _⟩, hB⟩
  · rename_i p
    obtain ⟨a, b, A, k⟩ := p
    rw [hok, hr] at he hd
    simp only [appOf, Prod.mk.injEq] at hd
    obtain ⟨rfl, rfl, rfl, rfl, rfl⟩ := hd
    obtain ⟨tl, rfl, ho⟩ := he
    obtain ⟨a', c, rfl, _⟩ := ownsRow_slice ho.2
    exact ⟨a', c, rfl, ho, hB⟩

theorem c_same (x y : Int) (v v' : Value) (L : List (List Col)) (w : World) (hL : Tiles w v L) (hM : Tiles w v' L) (hl : L.length ≤ 1000000) :
    Calls Try.prog 27 #[canV x y v, canV x y v'] w fun e w' => e = .returned (.bool true) ∧ Below w.heap.size w w' := by
  refine (same_any x y x y v v' L L w hL hM hl).mono ?_
  rintro e w' ⟨rfl, hb⟩
  exact ⟨by simp, hb⟩
theorem c_right (x y : Int) (a : Option Addr) (n c : Nat) (r : Bool) (w : World) (hr : canOk x y n = r) :
    Calls Try.prog 22 #[canV x y (.slice a n c)] w fun e w' => e = .returned (.bool r) ∧ Below w.heap.size w w' := by
  have := right_any x y a n c w
  rwa [hr] at this

end Go.Proofs.Ytneajhldmecllaa
