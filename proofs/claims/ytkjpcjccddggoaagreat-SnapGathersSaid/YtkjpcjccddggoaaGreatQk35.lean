/- Walks by data and names, part 35: More small laws: min, parts of slices. gessolaw10.RunsTiles: its walk. gessolaw10.own, canvas.Alike. -/
import Derived.Test.YtkjpcjccddggoaaGreatQk3
import Derived.Test.YtkjpcjccddggoaaGreatQk34
import Derived.Test.YtkjpcjccddggoaaGreatQk31
import Derived.Test.YtkjpcjccddggoaaGreatQk16
import Derived.Test.YtkjpcjccddggoaaGreatQk7
import Derived.Test.YtkjpcjccddggoaaGreatQk28
import Derived.Test.YtkjpcjccddggoaaGreatQk32
namespace Go.Proofs.YtkjpcjccddggoaaGreat
set_option maxRecDepth 20000
open Go.RowKit
/-- what comes later has all that was there: an order on worlds -/
theorem Below.up {a b c : World} (h : Below a.heap.size a b) (k : Below b.heap.size b c) : Below a.heap.size a c := h.trans (k.mono h.size)
theorem Below.upA {a b : World} (h : Below a.heap.size a b) (o : Obj) : Below a.heap.size a (b.alloc o) := h.alloc h.size o
theorem Below.new (w : World) (o : Obj) : Below w.heap.size w (w.alloc o) := (Below.refl _ _).alloc (Nat.le_refl _) o
theorem Blk.up {w w' : World} {b : Nat} {cs : Array Value} {t : TypeId} (h : Blk w b cs t) (hb : Below w.heap.size w w') : Blk w' b cs t := h.below hb h.lt
theorem IsSl.part {w : World} {a : Option Addr} {n n' c k : Nat} {cs cs' : List Value} (h : IsSl w (.slice a n c) n' cs) (hk : k ≤ n) (hcs : ∀ (j : Nat) (u : Value), cs'[j]? = some u → cs[j]? = some u) : IsSl w (.slice a k c) k cs' := by
  obtain ⟨a', c', e, h1, h2, h3, h4⟩ := h
  cases e
  exact ⟨a, c, rfl, by omega, h2, h3, fun j u hu => h4 j u (hcs j u hu)⟩
theorem Bytes.part {w : World} {a : Option Addr} {n c k : Nat} {l : List UInt8} (h : Bytes w (.slice a n c) l) (hk : k ≤ l.length) : Bytes w (.slice a k c) (l.take k) := by
  have h' := h
  obtain ⟨a', c', e, h1, h2, h3, h4⟩ := h'
  cases e
  have := IsSl.part (k := k) (cs' := (l.take k).map vb) h hk (fun j u hu => by
    rw [List.map_take, List.getElem?_take] at hu
    split at hu
    · exact hu
    · cases hu)
  unfold Bytes
  rw [List.length_take, Nat.min_eq_left hk]
  exact this
end Go.Proofs.YtkjpcjccddggoaaGreat

namespace Go.Proofs.YtkjpcjccddggoaaGreat
set_option maxRecDepth 20000
open Go.RowKit
theorem tlc_take (L : List (List Col)) (k : Nat) : tlc L = tlc (L.take k) ++ tlc (L.drop k) := by
  unfold tlc
  rw [← List.flatMap_append, List.take_append_drop]
theorem Tiles.part {w : World} {a : Option Addr} {n c k : Nat} {L : List (List Col)} (h : Tiles w (.slice a n c) L) (hk : k ≤ L.length) : Tiles w (.slice a k c) (L.take k) := by
  obtain ⟨h64, hs⟩ := h
  have e : (L.take k).length = k := by rw [List.length_take]; omega
  have hs' := hs
  obtain ⟨a', c', ee, _⟩ := hs'
  cases ee
  refine ⟨fun T hT => h64 T (List.mem_of_mem_take hT), ?_⟩
  rw [e]
  exact hs.part hk (fun j u hu => by rw [tlc_take L k, List.getElem?_append_left (List.getElem?_eq_some_iff.1 hu).1]; exact hu)
end Go.Proofs.YtkjpcjccddggoaaGreat

namespace Go.Proofs.YtkjpcjccddggoaaGreat
set_option maxRecDepth 20000
open Go.RowKit
theorem Bytes.cap {w : World} {a : Option Addr} {n c : Nat} {l : List UInt8} (h : Bytes w (.slice a n c) l) : l.length ≤ c ∧ c ≤ 9223372036854775807 := by
  obtain ⟨a', c', e, h1, h2, _⟩ := h
  cases e
  exact ⟨h1, h2⟩
end Go.Proofs.YtkjpcjccddggoaaGreat

namespace Go.Proofs.YtkjpcjccddggoaaGreat
set_option maxRecDepth 20000
open Go.RowKit
section
variable {P : Program} {ops : Array Oper} {Q : Exit → Act → World → Prop} {n : Nat}
/-! ### the frame: what has been done has its value in its slot -/
structure Fr (n : Nat) (ops : Array Oper) (on : Nat → Bool) (vs : Nat → Value) (a0 a : Act) : Prop where
  defers : a.defers = a0.defers
  size : a.tmps.size = a0.tmps.size
  got : ∀ i o d, i < n → on i = true → ops[i]? = some o → o.dst = some d → d < a0.tmps.size → a.tmps[d]? = some (vs i)
  old : ∀ k, (∀ i o, i < n → on i = true → ops[i]? = some o → o.dst ≠ some k) → a.tmps[k]? = a0.tmps[k]?
/-- no two of the first n operations yield into one slot -/
def dstsB (ops : Array Oper) (n : Nat) : Bool := decide (((List.range n).filterMap fun i => (ops[i]?).bind (·.dst)).Nodup)
theorem dsts_ne (hd : dstsB ops n = true) {i j : Nat} {o o' : Oper} {d : Tmp} (hi : i < n) (hj : j < n) (ho : ops[i]? = some o) (ho' : ops[j]? = some o') (h1 : o.dst = some d) (h2 : o'.dst = some d) : i = j := by
  have hN := of_decide_eq_true hd
  have key : ∀ m, ((List.range m).filterMap fun i => (ops[i]?).bind (·.dst)).Nodup → ∀ i j, i < j → j < m → (ops[i]?).bind (·.dst) = some d → (ops[j]?).bind (·.dst) = some d → False := by
    intro m
    induction m with
    | zero => intro _ i j _ h; omega
    | succ m ih =>
      intro hm i j hij hj h1 h2
      rw [List.range_succ, List.filterMap_append, List.nodup_append] at hm
      by_cases e : j = m
      · subst e
        refine hm.2.2 d (List.mem_filterMap.2 ⟨i, by simp; omega, h1⟩) d (List.mem_filterMap.2 ⟨j, by simp, h2⟩) rfl
      · exact ih hm.1 i j hij (by omega) h1 h2
  have e1 : (ops[i]?).bind (·.dst) = some d := by rw [ho]; exact h1
  have e2 : (ops[j]?).bind (·.dst) = some d := by rw [ho']; exact h2
  rcases Nat.lt_trichotomy i j with h | h | h
  · exact (key n hN i j h hj e1 e2).elim
  · exact h
  · exact (key n hN j i h hi e2 e1).elim
theorem Fr.put {on : Nat → Bool} {vs : Nat → Value} {a0 a : Act} (h : Fr n ops on vs a0 a) (hd : dstsB ops n = true) {i : Nat} {o : Oper} (hi : i < n) (ho : ops[i]? = some o) (hoff : on i = false) (v : Value)
    (on' : Nat → Bool) (hon' : ∀ j, j < n → on' j = (on j || decide (j = i))) : Fr n ops on' (fun j => if j = i then v else vs j) a0 (a.put o.dst v) := by
  have hs : (a.put o.dst v).tmps.size = a0.tmps.size := by
    unfold Act.put
    split
    · simpa using h.size
    · exact h.size
  refine ⟨?_, hs, ?_, ?_⟩
  · unfold Act.put
    split
    · exact h.defers
    · exact h.defers
  · intro j o' d hj hj' ho' hdd hlt
    rw [hon' j hj] at hj'
    by_cases e : j = i
    · subst e
      rw [ho] at ho'
      cases ho'
      simp only [if_true]
      unfold Act.put
      rw [hdd]
      simp only
      rw [Array.getElem?_setIfInBounds_self_of_lt (by rw [h.size]; exact hlt)]
    · simp only [if_neg e]
      have hj2 : on j = true := by simpa [e] using hj'
      have hne : o.dst ≠ some d := fun h1 => e (dsts_ne hd hj hi ho' ho hdd h1)
      unfold Act.put
      split
      · rename_i d' hd'
        have : d' ≠ d := fun h2 => hne (by rw [hd', h2])
        simp only
        rw [Array.getElem?_setIfInBounds_ne this]
        exact h.got j o' d hj hj2 ho' hdd hlt
      · exact h.got j o' d hj hj2 ho' hdd hlt
  · intro k hk
    have hne : o.dst ≠ some k := hk i o hi (by rw [hon' i hi]; simp) ho
    have hold := h.old k (fun j o' hj hj' ho' => hk j o' hj (by rw [hon' j hj, hj']; rfl) ho')
    unfold Act.put
    split
    · rename_i d' hd'
      have : d' ≠ k := fun h2 => hne (by rw [hd', h2])
      simp only
      rw [Array.getElem?_setIfInBounds_ne this]
      exact hold
    · exact hold
theorem Fr.tmp {on : Nat → Bool} {vs : Nat → Value} {a0 a : Act} (h : Fr n ops on vs a0 a) (i : Nat) {o : Oper} {d : Tmp} (hi : i < n) (hon : on i = true) (ho : ops[i]? = some o) (hd : o.dst = some d) (hs : Nat.blt d a0.tmps.size = true) : a.eval (.tmp d) = vs i := by
  have := h.got i o d hi hon ho hd (by simpa [Nat.blt_eq] using hs)
  simp [Act.eval, Array.getD_eq_getD_getElem?, this]
structure RG (n : Nat) (w0 : World) (wr : Nat → List Nat) (Φ : Nat → Value → World → Nat → Nat → Prop) (on : Nat → Bool) (w : World) (vs : Nat → Value) (lo hi : Nat → Nat) : Prop where
  bel : Below w0.heap.size w0 w
  bnd : ∀ i, i < n → on i = true → w0.heap.size ≤ lo i ∧ lo i ≤ hi i ∧ hi i ≤ w.heap.size
  dyn : ∀ i, i < n → on i = true → (∀ k, k < n → on k = true → i ∉ wr k) → Φ i (vs i) w (lo i) (hi i)
  apart : ∀ i j, i < n → j < n → on i = true → on j = true → i ≠ j → hi i ≤ lo j ∨ hi j ≤ lo i
/-- nothing that is there has turned but the blocks of S -/
structure KBut (S : Nat → Prop) (w w' : World) : Prop where
  os : w'.os = w.os
  tape : w'.tape = w.tape
  output : w'.output = w.output
  size : w.heap.size ≤ w'.heap.size
  block : ∀ k, k < w.heap.size → ¬ S k → w'.heap[k]? = w.heap[k]?
theorem KBut.of_below {w w' : World} {S : Nat → Prop} (h : Below w.heap.size w w') : KBut S w w' := ⟨h.os, h.tape, h.output, h.size, fun k hk _ => h.block k hk⟩
theorem KBut.of_grown {w w' : World} {row : Option Nat} {S : Nat → Prop} (h : w.grownBy w' row) (hS : ∀ k, row = some k → S k) : KBut S w w' := ⟨h.os, h.tape, h.output, h.size, fun k hk hn => h.block k hk (fun e => hn (hS k e.symm))⟩
theorem KBut.mono {w w' : World} {S S' : Nat → Prop} (h : KBut S w w') (hS : ∀ k, S k → S' k) : KBut S' w w' := ⟨h.os, h.tape, h.output, h.size, fun k hk hn => h.block k hk (fun e => hn (hS k e))⟩
theorem KBut.below {w w' : World} {S : Nat → Prop} {B : Nat} (h : KBut S w w') (hB : B ≤ w.heap.size) (hS : ∀ k, S k → B ≤ k) : Below B w w' := ⟨h.os, h.tape, h.output, h.size, fun k hk => h.block k (by omega) (fun e => by have := hS k e; omega)⟩
/-- what j's blocks are, for j of these -/
def ofB (wr : List Nat) (lo hi : Nat → Nat) (k : Nat) : Prop := ∃ j, j ∈ wr ∧ lo j ≤ k ∧ k < hi j
/-- each of the facts (but those of top) speaks of the old memory, and of its own blocks; and all of what is there -/
structure RGst (n : Nat) (w0 : World) (top : List Nat) (Φ : Nat → Value → World → Nat → Nat → Prop) : Prop where
  own : ∀ i v w w' lo hi, i < n → i ∉ top → Φ i v w lo hi → w0.heap.size ≤ lo → hi ≤ w.heap.size → KBut (fun k => w0.heap.size ≤ k ∧ (k < lo ∨ hi ≤ k)) w w' → Φ i v w' lo hi
  all : ∀ i v w w' lo hi, i < n → Φ i v w lo hi → hi ≤ w.heap.size → Below w.heap.size w w' → Φ i v w' lo hi
theorem RG.step {w0 w w' : World} {wr : Nat → List Nat} {Φ : Nat → Value → World → Nat → Nat → Prop} {on on' : Nat → Bool} {vs : Nat → Value} {lo hi : Nat → Nat} {i : Nat} {v : Value} {top : List Nat} (hR : RG n w0 wr Φ on w vs lo hi)
    (hst : RGst n w0 top Φ) (hi_ : i < n) (hB : KBut (ofB (wr i) lo hi) w w') (hw : ∀ j, j ∈ wr i → j < n ∧ on j = true) (ht : ∀ j, j < n → on j = true → j ∈ top → wr i = []) (hΦ : Φ i v w' w.heap.size w'.heap.size) (hon' : ∀ j, j < n → on' j = (on j || decide (j = i))) :
    RG n w0 wr Φ on' w' (fun j => if j = i then v else vs j) (fun j => if j = i then w.heap.size else lo j) (fun j => if j = i then w'.heap.size else hi j) := by
  have hs0 := hR.bel.size
  have hs1 := hB.size
  have hold : ∀ k, ofB (wr i) lo hi k → w0.heap.size ≤ k := by
    rintro k ⟨j, hj, h1, h2⟩
    obtain ⟨q1, q2⟩ := hw j hj
    have := (hR.bnd j q1 q2).1
    omega
  have hmono : ∀ k, k < n → on k = true → on' k = true := fun k hk h => by rw [hon' k hk, h]; rfl
  have honi : on' i = true := by rw [hon' i hi_]; simp
  refine ⟨hR.bel.trans (hB.below hs0 hold), fun j hj h => ?_, fun j hj h hlive => ?_, fun j k hj hk h1 h2 hne => ?_⟩
  · rw [hon' j hj] at h
    by_cases e : j = i
    · subst e
      simp only [if_true]
      exact ⟨hs0, hs1, Nat.le_refl _⟩
    · simp only [if_neg e]
      obtain ⟨f2, f3, f4⟩ := hR.bnd j hj (by simpa [e] using h)
      exact ⟨f2, f3, by omega⟩
  · rw [hon' j hj] at h
    by_cases e : j = i
    · subst e
      simp only [if_true]
      exact hΦ
    · simp only [if_neg e]
      have hjon : on j = true := by simpa [e] using h
      obtain ⟨f2, f3, f4⟩ := hR.bnd j hj hjon
      have f1 := hR.dyn j hj hjon (fun k hk hk2 => hlive k hk (hmono k hk hk2))
      have hjw : j ∉ wr i := hlive i hi_ honi
      by_cases hjt : j ∈ top
      · have hnil := ht j hj hjon hjt
        rw [hnil] at hB
        exact hst.all j _ _ _ _ _ hj f1 f4 (hB.below (Nat.le_refl _) (fun k hk => by obtain ⟨m, hm, _⟩ := hk; cases hm))
      · refine hst.own j _ _ _ _ _ hj hjt f1 f2 f4 (hB.mono fun k hk => ⟨hold k hk, ?_⟩)
        obtain ⟨m, hm, h1, h2⟩ := hk
        obtain ⟨q1, q2⟩ := hw m hm
        have hne : j ≠ m := fun e => hjw (by rw [e]; exact hm)
        have := hR.apart j m hj q1 hjon q2 hne
        omega
  · rw [hon' j hj] at h1
    rw [hon' k hk] at h2
    by_cases e : j = i
    · subst e
      have e2 : k ≠ j := fun h => hne h.symm
      simp only [if_true, if_neg e2]
      obtain ⟨_, _, f4⟩ := hR.bnd k hk (by simpa [e2] using h2)
      exact .inr f4
    · by_cases e2 : k = i
      · subst e2
        simp only [if_true, if_neg e]
        obtain ⟨_, _, f4⟩ := hR.bnd j hj (by simpa [e] using h1)
        exact .inl f4
      · simp only [if_neg e, if_neg e2]
        exact hR.apart j k hj hk (by simpa [e] using h1) (by simpa [e2] using h2) hne
end
/-! ### single operations -/
section
variable {P : Program} {ops : Array Oper} {Q : Exit → Act → World → Prop} {n : Nat} {w0 : World} {a0 : Act} {Φ : Nat → Value → World → Nat → Nat → Prop} {i : Nat} {o : Oper}
end
section
variable {P : Program} {Q : Exit → Act → World → Prop} {a : Act} {W : World} {dst : Option Tmp} {ty : TypeId} {pos : String} {af : Array Edge} {g : Option (Nat × Bool)} {Ψ : Value → World → Nat → Nat → Prop}
end
end Go.Proofs.YtkjpcjccddggoaaGreat

namespace Go.Proofs.YtkjpcjccddggoaaGreat
set_option maxRecDepth 20000
open Go.RowKit
section
variable {ops : Array Oper} {Q : Exit → Act → World → Prop} {rest : List Oper} {a : Act} {w : World} {dst : Option Tmp} {p q : Operand} {yt ty : TypeId} {pos : String} {af : Array Edge} {g : Option (Nat × Bool)}
end
theorem Below.setRow {B n : Nat} {w w1 : World} (h : Below B w w1) (hn : B ≤ n) (cs : Array Value) : Below B w (w1.setRow n cs) := below_row h n hn cs
end Go.Proofs.YtkjpcjccddggoaaGreat

namespace Go.Proofs.YtkjpcjccddggoaaGreat
set_option maxRecDepth 20000
open Go.RowKit
theorem ownsRow_block {w w' : World} {base : Nat} {e : TypeId} {size : Nat} {v : Value} {n : Nat} {xs : List Value} (h : w.ownsRow base e size v n xs) (hb : ∀ g, v.ownBlock = some g → w'.heap[g]? = w.heap[g]?) : w'.ownsRow base e size v n xs := by
  refine ⟨h.1, ?_⟩
  rcases h.2 with h2 | ⟨g, cap, cur, hv, hg, hh, r⟩
  · exact .inl h2
  · exact .inr ⟨g, cap, cur, hv, hg, (hb g (by rw [hv]; rfl)).trans hh, r⟩
section
variable {v : Value} {w w' : World} {lo hi B : Nat}
/-- a row of the operation's own -/
def RowΦ (e : TypeId) (size n : Nat) (xs : List Value) (v : Value) (W : World) (lo hi : Nat) : Prop := W.ownsRow lo e size v n xs ∧ ∀ g, v.ownBlock = some g → g < hi
theorem RowΦ.below {e : TypeId} {size n : Nat} {xs : List Value} (h : RowΦ e size n xs v w lo hi) (hh : hi ≤ w.heap.size) (hb : Below w.heap.size w w') : RowΦ e size n xs v w' lo hi :=
  ⟨ownsRow_block h.1 (fun g hg => hb.block g (by have := h.2 g hg; omega)), h.2⟩
theorem RowΦ.mk {e : TypeId} {size n : Nat} {xs : List Value} (h : w.ownsRow lo e size v n xs) : RowΦ e size n xs v w lo w.heap.size := ⟨h, fun g hg => (h.lt g hg).2⟩
/-- a variable of the operation's own -/
def VarΦ (cs : Array Value) (t : TypeId) (v : Value) (W : World) (lo hi : Nat) : Prop := ∃ b, v = .pointer (some ⟨b, 0, none⟩) ∧ lo ≤ b ∧ b < hi ∧ Blk W b cs t
theorem VarΦ.below {cs : Array Value} {t : TypeId} (h : VarΦ cs t v w lo hi) (hh : hi ≤ w.heap.size) (hb : Below w.heap.size w w') : VarΦ cs t v w' lo hi := by
  obtain ⟨b, h1, h2, h3, h4⟩ := h
  exact ⟨b, h1, h2, h3, (hb.block b (by omega)).trans h4⟩
/-- a row of constants of the operation's own -/
def LitΦ (cs : Array Value) (t : TypeId) (n : Nat) (v : Value) (W : World) (lo hi : Nat) : Prop := ∃ b, v = .slice (some ⟨b, 0, none⟩) n n ∧ lo ≤ b ∧ b < hi ∧ Blk W b cs t
theorem LitΦ.below {cs : Array Value} {t : TypeId} {n : Nat} (h : LitΦ cs t n v w lo hi) (hh : hi ≤ w.heap.size) (hb : Below w.heap.size w w') : LitΦ cs t n v w' lo hi := by
  obtain ⟨b, h1, h2, h3, h4⟩ := h
  exact ⟨b, h1, h2, h3, (hb.block b (by omega)).trans h4⟩
end
section
variable {P : Program} {Q : Exit → Act → World → Prop} {a : Act} {W : World} {dst : Option Tmp} {ty : TypeId} {pos : String} {af : Array Edge} {g : Option (Nat × Bool)} {Ψ : Value → World → Nat → Nat → Prop}
end
theorem LitΦ.bytes {cs : Array Value} {n : Nat} {v : Value} {W : World} {lo hi : Nat} {t : TypeId} (h : LitΦ cs t n v W lo hi) (l : List UInt8) (hl : l.length = n) (hc : cs.toList = l.map vb) (hm : n ≤ maxLen) : Bytes W v l := by
  obtain ⟨b, rfl, _, _, hb⟩ := h
  subst hl
  refine ⟨_, l.length, rfl, Nat.le_refl _, hm, by simp, fun j u hu => ⟨b, 0, rfl, ?_⟩⟩
  rw [Nat.zero_add, hb.cell]
  rw [← hc] at hu
  simpa using hu
end Go.Proofs.YtkjpcjccddggoaaGreat

namespace Go.Proofs.YtkjpcjccddggoaaGreat
set_option maxRecDepth 20000
open Go.RowKit
set_option maxRecDepth 100000 in
set_option maxHeartbeats 2000000 in
theorem same_any (x y x' y' : Int) (v v' : Value) (L M : List (List Col)) (w : World) (hL : Tiles w v L) (hM : Tiles w v' M) (hl : L.length ≤ 1000000) :
    Calls Tryz.prog 65 #[canV x y v, canV x' y' v'] w fun e w' => e = .returned (.bool (decide (x = x' ∧ y = y' ∧ L = M))) ∧ Below w.heap.size w w' := by
  obtain ⟨a, c, rfl, hc, hm⟩ := hL.slice
  obtain ⟨a', c', rfl, hc', hm'⟩ := hM.slice
  have hB2 : Below w.heap.size w ((w.alloc (.cells #[.int .i64 x, .int .i64 y, .slice a L.length c] 50)).alloc (.cells #[.int .i64 x', .int .i64 y', .slice a' M.length c'] 50)) := by repeat (first | assumption | exact Below.refl _ _ | refine below_dN ?_ _ | refine Below.alloc ?_ (by first | exact Nat.le_refl _ | omega | (simp; fail_if_success (focus skip)) | (simp; omega)) _ | refine Below.setCell ?_ (by first | exact Nat.le_refl _ | omega | (simp; fail_if_success (focus skip)) | (simp; omega)) _ | refine Below.drew ?_ | refine Below.trans ?_ (Below.mono (by assumption) (by first | exact Nat.le_refl _ | omega | (simp; fail_if_success (focus skip)) | (simp; omega))))
  have k1 := Blk.new (w.alloc (.cells #[.int .i64 x, .int .i64 y, .slice a L.length c] 50)) #[.int .i64 x', .int .i64 y', .slice a' M.length c'] 50
  simp only [World.size_alloc] at k1
  by_cases h1 : x = x'
  · by_cases h2 : y = y'
    · by_cases h3 : L.length = M.length
      · have q1 : (x != x') = false := by simpa using h1
        have q2 : (y != y') = false := by simpa using h2
        have q3 : ((L.length : Int) != (M.length : Int)) = false := by rw [bne_eq_false_iff_eq]; omega
        have e : decide (x = x' ∧ y = y' ∧ L = M) = decide (L = M) := by simp [h1, h2]
        rw [e]
        have HL := Lib.hid h3
        clear e h1 h2 h3
        go_enter Tryz.func65, Tryz.ntmps65
        go_wp2
        obtain ⟨W2, hW2⟩ : ∃ W2, (w.alloc (.cells #[.int .i64 x, .int .i64 y, .slice a L.length c] 50)).alloc (.cells #[.int .i64 x', .int .i64 y', .slice a' M.length c'] 50) = W2 := ⟨_, rfl⟩
        rw [hW2] at hB2 k1 ⊢
        clear hW2
        go_loopw [31] (fun i wr => ∃ k : Nat, k ≤ L.length ∧ i = .int .i64 k ∧ L.take k = M.take k ∧ Below W2.heap.size W2 wr) (fun i _ => L.length - (intOf i).toNat)
        case atStart => exact ⟨0, by omega, rfl, by simp, Below.refl _ _⟩
        case round =>
          obtain ⟨k, hk, rfl, heq, hB⟩ := hrel
          by_cases hlt : k < L.length
          · have hlt2 : k < M.length := by have := HL.out; omega
            have hB0 := Below.up hB2 hB
            obtain ⟨b, o, rfl, hT, hb⟩ := (hL.below hB0).get k hlt
            obtain ⟨b2, o2, rfl, hT2, hb2⟩ := (hM.below hB0).get k hlt2
            have t1 : L[k].length = 64 := hL.1 _ (by simp)
            have t2 : M[k].length = 64 := hM.1 _ (by simp)
            have kw := Blk.up k1 hB
            have HE := Lib.hid heq
            clear heq
            have HT1 : Hid (L.take (k + 1) = L.take k ++ [L[k]]) := Lib.hid (List.take_succ_eq_append_getElem hlt)
            have HT2 : Hid (M.take (k + 1) = M.take k ++ [M[k]]) := Lib.hid (List.take_succ_eq_append_getElem hlt2)
            have HN : Hid (L[k] ≠ M[k] → ¬ L = M) := Lib.hid (fun h e => h (by subst e; rfl))
            obtain ⟨T, eT⟩ : ∃ T, L[k] = T := ⟨_, rfl⟩
            obtain ⟨Z, eZ⟩ : ∃ Z, M[k] = Z := ⟨_, rfl⟩
            rw [eT] at t1 hT HT1 HN
            rw [eZ] at t2 hT2 HT2 HN
            clear eT eZ
            have bT := Blk.new wr (tcells T) 109
            go_wp2_with (first | refine wl_load_tile rfl rfl t1 hT ?_ | refine wl_alloc_tile rfl ?_ | refine wl_store_tile_new rfl rfl rfl rfl (by rfl) t1 ?_)
            have kw1 := kw.alloc (.cells (tcells T) 109)
            have hT2' := hT2.below (Below.new wr (.cells (tcells T) 109)) hb2
            have hB1 := Below.upA hB (.cells (tcells T) 109)
            have hsz : wr.heap.size < (wr.alloc (.cells (tcells T) 109)).heap.size := by simp
            have hb3 : b2 < (wr.alloc (.cells (tcells T) 109)).heap.size := by simp; omega
            obtain ⟨W3, hW3⟩ : ∃ W3, wr.alloc (.cells (tcells T) 109) = W3 := ⟨_, rfl⟩
            rw [hW3] at bT kw1 hT2' hB1 hsz hb3 ⊢
            clear hW3
            have e2 : W3.cell? ⟨w.heap.size + 1, 2, none⟩ = some (.slice (some ⟨b2, o2, none⟩) M.length c') := kw1.cell 2
            refine wp_region_cuts [.q [_, _, _, _, _, _]] [_] rfl (fun w'' => Below W3.heap.size W3 w'') (by kernel_rfl) (by kernel_rfl) (fun _ _ d _ _ h => by cases d <;> exact h) ?_
            refine cut_q (Below.refl _ W3).drew ?_
            repeat (first | go_big_quiet_step ((intros; rfl)) | quiet_step ((intros; rfl)) | (refine wq_load_tile rfl rfl t1 (fun w'' hC => (Blk.up bT hC).tileAt) ?_; simp only [Act.put, List.setIfInBounds_toArray, List.set_cons_succ, List.set_cons_zero]) | (refine wq_load_tile rfl rfl t2 (fun w'' hC => hT2'.below hC hb3) ?_; simp only [Act.put, List.setIfInBounds_toArray, List.set_cons_succ, List.set_cons_zero]) | (refine wq_loadB rfl rfl (by kernel_rfl) (by assumption) ?_; simp only [Act.put, List.setIfInBounds_toArray, List.set_cons_succ, List.set_cons_zero]))
            refine wpQuiet_nil ?_
            refine cut_end ?_
            have hB3 := Below.drew hB1
            by_cases hTZ : T = Z
            · have hqe : (T != Z) = false := by simpa using hTZ
              have HTZ := Lib.hid hTZ
              clear hTZ
              go_wp2_with (refine wl_neq_tile rfl rfl rfl t1 t2 ?_; rw [hqe])
              go_roundw
              case rel => exact ⟨k + 1, by omega, by go_num, by rw [HT1.out, HT2.out, HE.out, HTZ.out], hB3⟩
              case measure => simp only [intOf]; omega
            · have hqe : (T != Z) = true := by simpa using hTZ
              have hne := HN.out hTZ
              clear hTZ
              go_wp2_with (refine wl_neq_tile rfl rfl rfl t1 t2 ?_; rw [hqe])
              go_ret
              exact ⟨by simp [hne], Below.up hB2 hB3⟩
          · obtain rfl : k = L.length := by omega
            have : L = M := by rw [List.take_length, List.take_of_length_le (by have := HL.out; omega)] at heq; exact heq
            have HT := Lib.hid this
            clear this heq
            go_wp2
            go_ret
            exact ⟨by rw [HT.out]; simp, Below.up hB2 hB⟩
      · have q1 : (x != x') = false := by simpa using h1
        have q2 : (y != y') = false := by simpa using h2
        have q3 : ((L.length : Int) != (M.length : Int)) = true := by simpa using (by omega : ¬ (L.length : Int) = (M.length : Int))
        have e : decide (x = x' ∧ y = y' ∧ L = M) = false := by
          have : ¬ L = M := fun h => h3 (by rw [h])
          simp [this]
        rw [e]
        clear e h1 h2 h3
        go_enter Tryz.func65, Tryz.ntmps65
        go_wp2
        go_ret
        exact ⟨rfl, hB2⟩
    · have q1 : (x != x') = false := by simpa using h1
      have q2 : (y != y') = true := by simpa using h2
      have e : decide (x = x' ∧ y = y' ∧ L = M) = false := by simp [h2]
      rw [e]
      clear e h1 h2
      go_enter Tryz.func65, Tryz.ntmps65
      go_wp2
      go_ret
      exact ⟨rfl, hB2⟩
  · have q1 : (x != x') = true := by simpa using h1
    have e : decide (x = x' ∧ y = y' ∧ L = M) = false := by simp [h1]
    rw [e]
    clear e h1
    go_enter Tryz.func65, Tryz.ntmps65
    go_wp2
    go_ret
    exact ⟨rfl, hB2⟩
end Go.Proofs.YtkjpcjccddggoaaGreat

namespace Go.Proofs.YtkjpcjccddggoaaGreat
open Go.RowKit
set_option maxRecDepth 10000
set_option maxHeartbeats 4000000
abbrev tlD (T : List Col) : List D := (tcells T).toList.map .lit
theorem tlD_len {T : List Col} (h : T.length = 64) : (tlD T).length = 256 := by
  rw [List.length_map, Array.length_toList, tcells_size, h]
instance dls_lits : ∀ (l : List Value), DLs (l.map .lit) (l.map .lit)
  | [] => inferInstanceAs (DLs [] [])
  | x :: l => by
    have := dls_lits l
    exact inferInstanceAs (DLs (.lit x :: l.map .lit) (.lit x :: l.map .lit))
instance dlss_tl (L : List (List Col)) : DLss (L.map tlD) (L.map tlD) := dlss_map L _ _ (fun _ => inferInstance) (fun _ => rfl)
/-- a canvas -/
structure Cv where
  x : Int
  y : Int
  L : List (List Col)
deriving DecidableEq
abbrev cvD (c : Cv) : List D := [i64D c.x, i64D c.y, .sl false false (c.L.map tlD)]
def cvB (c : Cv) : Bool := canOk c.x c.y c.L.length
section
variable {B : Nat} {U : Nat → Prop} {w : World}
theorem tiles_of {c f : Bool} {L : List (List Col)} {u : Value} (h64 : All64 L) (h : drep B U w (.sl c f (L.map tlD)) u) : Tiles w u L := ⟨h64, isSl_of (fun T => (tcells T).toList) h⟩
theorem cv_of {c : Cv} {u : Value} (h64 : All64 c.L) (h : drep B U w (.agg (cvD c)) u) : ∃ v, u = canV c.x c.y v ∧ Tiles w v c.L := by
  simp only [drep, dreps] at h
  obtain ⟨_, rfl, _, _, rfl, rfl, _, _, rfl, rfl, v, _, rfl, h, rfl⟩ := h
  exact ⟨v, rfl, tiles_of h64 (by simp only [drep]; exact h)⟩
theorem own_tiles {L : List (List Col)} {v : Value} (h : OwnT B w v L) (hU : ∀ b, B ≤ b → U b) : drep B U w (.sl false true (L.map tlD)) v := by
  refine ownsRow_sl (sz := 256) (e := 109) (drepss_lits_mk (fun T => (tcells T).toList) L) (fun x hx => ?_) (one_tlc L) (by rw [List.length_map]; exact ownsRow_base h.2 (Nat.zero_le _)) (fun _ b hb => (h.2.lt b hb).1) fun b hb => hU b (h.2.lt b hb).1
  obtain ⟨y, hy, rfl⟩ := List.mem_map.1 hx
  exact tlD_len (h.1 y hy)
theorem fm_vb : ∀ b : List UInt8, b.flatMap (fun x => [vb x]) = b.map vb
  | [] => rfl
  | x :: b => by rw [List.flatMap_cons, fm_vb b]; rfl
theorem bytes_of {c f : Bool} {b : List UInt8} {u : Value} (h : drep B U w (.sl c f (byD b)) u) : Bytes w u b := by
  have := isSl_of (fun x : UInt8 => [vb x]) h
  rwa [fm_vb] at this
theorem own_bytes {b : List UInt8} {v : Value} (h : OwnB B w v b) (hU : ∀ b, B ≤ b → U b) : drep B U w (.sl false true (byD b)) v := by
  have e := fm_vb b
  refine own_sl (fun x : UInt8 => [vb x]) (fun _ => rfl) (by rw [e]; exact h) (by rw [e]; exact one_bytes b) hU
end
theorem cv_arg {B : Nat} {U : Nat → Prop} {w : World} {c : Cv} {us : List Value} (h64 : All64 c.L) (h : dreps B U w [.agg (cvD c)] us) : ∃ v, us = [canV c.x c.y v] ∧ Tiles w v c.L := by
  simp only [dreps] at h
  obtain ⟨u, _, rfl, h, rfl⟩ := h
  obtain ⟨v, rfl, hv⟩ := cv_of h64 h
  exact ⟨v, rfl, hv⟩
theorem ccheck_v (c : Cv) (h : All64 c.L) : VP Tryz.prog 62 [.agg (cvD c)] (· = .ret (i64D (if cvB c then 0 else 150))) := by
  refine vp_bridge (callFunc_run Tryz.func62 (by kernel_rfl) rfl) fun U w us hu => ?_
  obtain ⟨v, rfl, hv⟩ := cv_arg h hu
  refine (check_any c.x c.y v c.L w hv).mono ?_
  rintro e w' ⟨rfl, hb⟩
  exact ⟨hb, _, rfl, by simp only [drep, cvB]; rfl⟩
theorem rsame05_v (c d : Cv) (h : All64 c.L) (h' : All64 d.L) (hl : c.L.length ≤ 1000000) : VP Tryz.prog 65 [.agg (cvD c), .agg (cvD d)] (· = .ret (.lit (.bool (decide (c = d))))) := by
  refine vp_bridge (callFunc_run Tryz.func65 (by kernel_rfl) rfl) fun U w us hu => ?_
  simp only [dreps] at hu
  obtain ⟨u, _, rfl, h1, u', _, rfl, h2, rfl⟩ := hu
  obtain ⟨v, rfl, hv⟩ := cv_of h h1
  obtain ⟨v', rfl, hv'⟩ := cv_of h' h2
  refine (same_any c.x c.y d.x d.y v v' c.L d.L w hv hv' hl).mono ?_
  rintro e w' ⟨rfl, hb⟩
  refine ⟨hb, _, rfl, ?_⟩
  obtain ⟨x, y, L⟩ := c
  obtain ⟨x', y', L'⟩ := d
  simp only [drep, Cv.mk.injEq]
theorem canvas_v (c : Cv) (h : All64 c.L) (hl : c.L.length ≤ 1000) : VP Tryz.prog 71 [.agg (cvD c)] (· = .ret (.tup [.sl false true (byD (if cvB c then canvasB c.x.toNat c.y.toNat c.L else [])), i64D (if cvB c then 0 else 150)])) := by
  refine vp_bridge (callFunc_run Tryz.func71 (by kernel_rfl) rfl) fun U w us hu => ?_
  obtain ⟨v, rfl, hv⟩ := cv_arg h hu
  refine (canvas_any c.x c.y v c.L w hv hl).mono ?_
  rintro e w' ⟨v', rfl, ho, hb⟩
  refine ⟨hb, _, rfl, ?_⟩
  simp only [drep, dreps]
  have := own_bytes ho (U := fun b => U b ∨ w.heap.size ≤ b) fun _ => .inr
  simp only [drep] at this
  exact ⟨_, rfl, _, _, rfl, this, _, _, rfl, rfl, rfl⟩
end Go.Proofs.YtkjpcjccddggoaaGreat
