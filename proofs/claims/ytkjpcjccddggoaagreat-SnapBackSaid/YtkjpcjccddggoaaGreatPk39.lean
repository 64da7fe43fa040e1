/- Walks by data and names, part 39: Runs: the plain laws of canvases and patches: what is told is read, whatever stands behind; what is read has just its bytes. A slice that is built of tiles; worlds that are taken as variables. gessolaw10.wakes: the layer does what it should at the inputs that the law names. -/
import Derived.Test.YtkjpcjccddggoaaGreatPk36
import Derived.Test.YtkjpcjccddggoaaGreatPk38
import Derived.Test.YtkjpcjccddggoaaGreatPk33
import Derived.Test.YtkjpcjccddggoaaGreatPk3
import Derived.Test.YtkjpcjccddggoaaGreatPk34
import Derived.Test.YtkjpcjccddggoaaGreatPk35
import Derived.Test.YtkjpcjccddggoaaGreatPk16
namespace Go.Proofs.YtkjpcjccddggoaaGreat
set_option maxRecDepth 20000
theorem enc_head (T : List Col) (hT : T.length = 64) : ∃ b l, enc T = b :: l ∧ b ≠ 0 := by
  obtain ⟨_, h2⟩ := rle_chain T (by omega)
  have hs := rle_sum T
  unfold enc encR
  cases hr : rle T with
  | nil => rw [hr] at hs; simp at hs; omega
  | cons x rs =>
    have hx := h2 x (by simp [hr])
    refine ⟨UInt8.ofNat x.1, _, rfl, ?_⟩
    intro h
    have := congrArg UInt8.toNat h
    simp at this
    omega
theorem bodyB_congr (Z Z' : Nat → List Col) (L : List (List Col)) : ∀ k, (∀ j, j < L.length → Z (k + j) = Z' (k + j)) → bodyB Z k L = bodyB Z' k L := by
  induction L with
  | nil => intro k _; rfl
  | cons T L ih =>
    intro k h
    have h0 := h 0 (by simp)
    simp only [Nat.add_zero] at h0
    unfold bodyB
    rw [h0, ih (k + 1) (fun j hj => by have := h (j + 1) (by simpa using hj); rwa [show k + 1 + j = k + (j + 1) from by omega])]
theorem readTs_enc (Zf : List (List Col) → List Col) (more : List UInt8) : ∀ (rest A : List (List Col)), All64 rest →
    readTs Zf rest.length A (bodyB (fun i => Zf ((A ++ rest).take i)) A.length rest ++ more) = some (A ++ rest, (bodyB (fun i => Zf ((A ++ rest).take i)) A.length rest).length)
  | [], A, _ => by simp [readTs, bodyB]
  | T :: rest, A, h => by
    have hT := h T (by simp)
    have ih := readTs_enc Zf more rest (A ++ [T]) (fun U hU => h U (by simp [hU]))
    have e1 : A ++ [T] ++ rest = A ++ T :: rest := by simp
    have e2 : (A ++ [T]).length = A.length + 1 := by simp
    rw [e1, e2] at ih
    have hz : Zf ((A ++ T :: rest).take A.length) = Zf A := by rw [List.take_left' rfl]
    obtain ⟨R, hR⟩ : ∃ R, bodyB (fun i => Zf ((A ++ T :: rest).take i)) (A.length + 1) rest = R := ⟨_, rfl⟩
    rw [hR] at ih
    unfold bodyB
    simp only [hz, hR, List.length_cons]
    unfold stepB
    by_cases he : T = Zf A
    · rw [if_pos he]
      simp only [List.cons_append, List.nil_append]
      unfold readTs
      rw [if_pos rfl, ← he, ih]
      simp
    · rw [if_neg he]
      obtain ⟨b, l, hb, hb0⟩ := enc_head T hT
      have hrd := read_enc T hT (R ++ more)
      unfold readTile at hrd
      rw [List.append_assoc]
      have hdrop : (enc T ++ (R ++ more)).drop (enc T).length = R ++ more := List.drop_left' rfl
      rw [hb] at hrd hdrop ⊢
      simp only [List.cons_append] at hrd hdrop ⊢
      unfold readTs
      rw [if_neg hb0, hrd]
      simp only
      rw [if_neg he, hdrop, ih]
      simp
      omega
theorem readTs_own (Zf : List (List Col) → List Col) (hZ : ∀ A, All64 A → (Zf A).length = 64) : ∀ (m : Nat) (A : List (List Col)) (l : List UInt8) (A' : List (List Col)) (n : Nat), All64 A → readTs Zf m A l = some (A', n) →
    ∃ rest, A' = A ++ rest ∧ rest.length = m ∧ All64 rest ∧ n ≤ l.length ∧ bodyB (fun i => Zf (A'.take i)) A.length rest = l.take n
  | 0, A, l, A', n, _, h => by
    simp [readTs] at h
    obtain ⟨rfl, rfl⟩ := h
    exact ⟨[], by simp, rfl, by simp [All64], by omega, by simp [bodyB]⟩
  | m + 1, A, [], A', n, _, h => by simp [readTs] at h
  | m + 1, A, b :: l, A', n, hA, h => by
    unfold readTs at h
    by_cases hb : b = 0
    · rw [if_pos hb] at h
      obtain ⟨⟨B, k⟩, h1, h2⟩ := Option.map_eq_some_iff.1 h
      simp only [Prod.mk.injEq] at h2
      obtain ⟨rfl, rfl⟩ := h2
      have hz := hZ A hA
      obtain ⟨rest, rfl, h4, h5, h6, h7⟩ := readTs_own Zf hZ m (A ++ [Zf A]) l B k (by intro T hT; rcases List.mem_append.1 hT with h | h; exact hA T h; rw [List.mem_singleton.1 h]; exact hz) h1
      refine ⟨Zf A :: rest, by simp, by simp [h4], by intro T hT; rcases List.mem_cons.1 hT with h | h; rw [h]; exact hz; exact h5 T h, by simp; omega, ?_⟩
      have e : (A ++ [Zf A]).length = A.length + 1 := by simp
      rw [e] at h7
      unfold bodyB
      rw [h7]
      have hz2 : Zf ((A ++ [Zf A] ++ rest).take A.length) = Zf A := by rw [List.append_assoc, List.take_left' rfl]
      simp only [hz2]
      unfold stepB
      rw [if_pos rfl, hb]
      simp
    · rw [if_neg hb] at h
      cases hr : readT [] (b :: l) with
      | none => rw [hr] at h; cases h
      | some p =>
        obtain ⟨T, k⟩ := p
        rw [hr] at h
        simp only at h
        split at h
        · cases h
        · rename_i hT
          obtain ⟨⟨B, k'⟩, h1, h2⟩ := Option.map_eq_some_iff.1 h
          simp only [Prod.mk.injEq] at h2
          obtain ⟨rfl, rfl⟩ := h2
          have hT64 := readT_len _ _ _ _ hr
          obtain ⟨g1, g2, g3⟩ := read_own (b :: l) T k hr
          obtain ⟨rest, rfl, h4, h5, h6, h7⟩ := readTs_own Zf hZ m (A ++ [T]) _ B k' (by intro U hU; rcases List.mem_append.1 hU with h | h; exact hA U h; rw [List.mem_singleton.1 h]; exact hT64) h1
          rw [List.length_drop] at h6
          refine ⟨T :: rest, by simp, by simp [h4], by intro U hU; rcases List.mem_cons.1 hU with h | h; rw [h]; exact hT64; exact h5 U h, by omega, ?_⟩
          have e : (A ++ [T]).length = A.length + 1 := by simp
          rw [e] at h7
          unfold bodyB
          rw [h7]
          have hz2 : Zf ((A ++ [T] ++ rest).take A.length) = Zf A := by rw [List.append_assoc, List.take_left' rfl]
          simp only [hz2]
          unfold stepB
          rw [if_neg hT, ← g3, Nat.add_comm k' k, List.take_add]
theorem ahead_take (L : List (List Col)) : bodyB (aheadZ L) 0 L = bodyB (fun i => aheadF (L.take i)) 0 L := by
  apply bodyB_congr
  intro j hj
  simp only [Nat.zero_add]
  unfold aheadF aheadZ
  rw [List.length_take, Nat.min_eq_left (by omega)]
  split
  · rfl
  · rw [List.getD_eq_getElem?_getD, List.getD_eq_getElem?_getD, List.getElem?_take, if_pos (by omega)]
theorem canOk_nat {x y : Int} {n : Nat} (h : canOk x y n = true) : ∃ a b : Nat, x = a ∧ y = b ∧ 1 ≤ a ∧ a ≤ 4 ∧ 1 ≤ b ∧ b ≤ 4 ∧ n = a * b := by
  unfold canOk at h
  simp at h
  refine ⟨x.toNat, y.toNat, by omega, by omega, by omega, by omega, by omega, by omega, ?_⟩
  have hx : (x.toNat : Int) = x := by omega
  have hy : (y.toNat : Int) = y := by omega
  have : ((x.toNat * y.toNat : Nat) : Int) = x * y := by rw [Int.natCast_mul, hx, hy]
  omega
theorem readcan_enc (a b : Nat) (L : List (List Col)) (ha : 1 ≤ a ∧ a ≤ 4) (hb : 1 ≤ b ∧ b ≤ 4) (hl : L.length = a * b) (hL : All64 L) (more : List UInt8) :
    readCan (canvasB a b L ++ more) = some (a, b, L, (canvasB a b L).length) := by
  have h := readTs_enc aheadF more L [] hL
  simp only [List.nil_append, List.length_nil] at h
  have ea : (UInt8.ofNat a).toNat = a := by simp; omega
  have eb : (UInt8.ofNat b).toNat = b := by simp; omega
  unfold canvasB headB
  rw [ahead_take]
  simp only [List.cons_append, List.nil_append]
  rw [readCan_cons, ea, eb, if_pos ⟨ha.1, ha.2, hb.1, hb.2⟩, ← hl, h]
  simp
theorem readcan_own (l : List UInt8) (a b : Nat) (L : List (List Col)) (n : Nat) (h : readCan l = some (a, b, L, n)) :
    (1 ≤ a ∧ a ≤ 4) ∧ (1 ≤ b ∧ b ≤ 4) ∧ L.length = a * b ∧ All64 L ∧ n ≤ l.length ∧ 2 ≤ n ∧ canvasB a b L = l.take n := by
  match l, h with
  | [], h => simp [readCan] at h
  | [_], h => simp [readCan] at h
  | p :: q :: rest, h =>
    rw [readCan_cons] at h
    split at h
    · rename_i hh
      obtain ⟨⟨B, k⟩, h1, h2⟩ := Option.map_eq_some_iff.1 h
      simp only [Prod.mk.injEq] at h2
      obtain ⟨rfl, rfl, rfl, rfl⟩ := h2
      obtain ⟨rest', e, h4, h5, h6, h7⟩ := readTs_own aheadF (fun A hA => aheadF_len A hA) _ [] _ _ _ (by simp [All64]) h1
      simp only [List.nil_append] at e
      subst e
      refine ⟨⟨hh.1, hh.2.1⟩, ⟨hh.2.2.1, hh.2.2.2⟩, h4, h5, by simp; omega, by omega, ?_⟩
      unfold canvasB headB
      rw [ahead_take]
      simp only [List.length_nil] at h7
      rw [h7]
      simp
    · cases h
end Go.Proofs.YtkjpcjccddggoaaGreat

namespace Go.Proofs.YtkjpcjccddggoaaGreat
set_option maxRecDepth 20000
open Go.RowKit
section
variable {ops : Array Oper} {Q : Exit → Act → World → Prop} {rest : List Oper} {a : Act} {w : World} {dst : Option Tmp} {p q : Operand} {ty : TypeId} {pos : String} {af : Array Edge} {g : Option (Nat × Bool)}
end
/-- the world is taken as a variable of which this is known -/
theorem gen_code {P : Program} {Q : Exit → Act → World → Prop} {a : Act} {c : Code} {w : World} (F : World → Prop) (hF : F w) (h : ∀ W, F W → c.wp P Q a W) : c.wp P Q a w := h w hF
end Go.Proofs.YtkjpcjccddggoaaGreat

namespace Go.Proofs.YtkjpcjccddggoaaGreat
set_option maxRecDepth 20000
open Go.RowKit
theorem bytes_new (W : World) (l : List UInt8) (cs : Array Value) (t : TypeId) (n k : Nat) (hn : n = W.heap.size) (hk : l.length = k) (hc : cs.toList = l.map vb) (hm : k ≤ maxLen) : Bytes (W.alloc (.cells cs t)) (.slice (some ⟨n, 0, none⟩) k k) l := by
  subst hk
  have h := IsSl.new (W := W) (n := n) (cs := cs) (t := t) hn hm
  rw [hc] at h
  exact h
def spotT : List Col := noTile.set 0 ⟨255, 0, 0, 255⟩
end Go.Proofs.YtkjpcjccddggoaaGreat

namespace Go.Proofs.YtkjpcjccddggoaaGreat
set_option maxRecDepth 20000
open Go.RowKit
structure WkInv (w W : World) (p3 : Nat) (v : Value) : Prop where
  bel : Below w.heap.size w W
  b1 : Blk W w.heap.size (tcells noTile) 109
  b2 : Blk W (w.heap.size + 1) (tcells spotT) 109
  b3 : Blk W p3 #[.int .i64 2, .int .i64 1, v] 50
  ts : Tiles W v [noTile, noTile]
theorem WkInv.below {w W W' : World} {p3 : Nat} {v : Value} (h : WkInv w W p3 v) (hb : Below W.heap.size W W') : WkInv w W' p3 v :=
  ⟨h.bel.trans (hb.mono h.bel.size), h.b1.below hb h.b1.lt, h.b2.below hb h.b2.lt, h.b3.below hb h.b3.lt, h.ts.below hb⟩
end Go.Proofs.YtkjpcjccddggoaaGreat

namespace Go.Proofs.YtkjpcjccddggoaaGreat
set_option maxRecDepth 20000
open Go.RowKit
/-- what comes later has all that was there: an order on worlds -/
theorem Below.up {a b c : World} (h : Below a.heap.size a b) (k : Below b.heap.size b c) : Below a.heap.size a c := h.trans (k.mono h.size)
theorem Below.upA {a b : World} (h : Below a.heap.size a b) (o : Obj) : Below a.heap.size a (b.alloc o) := h.alloc h.size o
theorem Below.new (w : World) (o : Obj) : Below w.heap.size w (w.alloc o) := (Below.refl _ _).alloc (Nat.le_refl _) o
theorem Blk.up {w w' : World} {b : Nat} {cs : Array Value} {t : TypeId} (h : Blk w b cs t) (hb : Below w.heap.size w w') : Blk w' b cs t := h.below hb h.lt
theorem IsSl.part {w : World} {a : Option Addr} {n n' c k : Nat} {cs cs' : List Value} (h : IsSl w (.slice a n c) n' cs) (hk : k ≤ n) (hcs : ∀ (j : Nat) (u : Value), cs'[j]? = some u → cs[j]? = some u) : IsSl w (.slice a k c) k cs' := by
  obtain ⟨a', c', e, h1, h2, h3, h4⟩ := h
  cases e
  exact ⟨a, c, rfl, by omega, h2, h3, fun j u hu => h4 j u (hcs j u hu)⟩
theorem Bytes.part {w : World} {a : Option Addr} {n c k : Nat} {l : List UInt8} (h : Bytes w (.slice a n c) l) (hk : k ≤ l.length) : Bytes w (.slice a k c) (l.take k) := by
  have h' := h
  obtain ⟨a', c', e, h1, h2, h3, h4⟩ := h'
  cases e
  have := IsSl.part (k := k) (cs' := (l.take k).map vb) h hk (fun j u hu => by
    rw [List.map_take, List.getElem?_take] at hu
    split at hu
    · exact hu
    · cases hu)
  unfold Bytes
  rw [List.length_take, Nat.min_eq_left hk]
  exact this
end Go.Proofs.YtkjpcjccddggoaaGreat

namespace Go.Proofs.YtkjpcjccddggoaaGreat
set_option maxRecDepth 20000
open Go.RowKit
theorem tlc_take (L : List (List Col)) (k : Nat) : tlc L = tlc (L.take k) ++ tlc (L.drop k) := by
  unfold tlc
  rw [← List.flatMap_append, List.take_append_drop]
theorem Tiles.part {w : World} {a : Option Addr} {n c k : Nat} {L : List (List Col)} (h : Tiles w (.slice a n c) L) (hk : k ≤ L.length) : Tiles w (.slice a k c) (L.take k) := by
  obtain ⟨h64, hs⟩ := h
  have e : (L.take k).length = k := by rw [List.length_take]; omega
  have hs' := hs
  obtain ⟨a', c', ee, _⟩ := hs'
  cases ee
  refine ⟨fun T hT => h64 T (List.mem_of_mem_take hT), ?_⟩
  rw [e]
  exact hs.part hk (fun j u hu => by rw [tlc_take L k, List.getElem?_append_left (List.getElem?_eq_some_iff.1 hu).1]; exact hu)
theorem readT_pos (l : List UInt8) (T : List Col) (k : Nat) (h : readTile l = some (T, k)) : 0 < k := by
  unfold readTile at h
  unfold readT at h
  rw [if_neg (by simp)] at h
  split at h
  · split at h
    · obtain ⟨p, _, hp⟩ := Option.map_eq_some_iff.1 h
      cases hp
      omega
    · cases h
  · cases h
end Go.Proofs.YtkjpcjccddggoaaGreat

namespace Go.Proofs.YtkjpcjccddggoaaGreat
set_option maxRecDepth 20000
open Go.RowKit
/-- append of bytes to a row of the call's own -/
theorem wl_append_bytes {ops : Array Oper} {Q : Exit → Act → World → Prop} {rest : List Oper} {a : Act} {w : World} {dst : Option Tmp} {s x : Operand} {ty : TypeId} {pos : String} {af : Array Edge} {g : Option (Nat × Bool)} (base : Nat) {v v2 : Value} {l m : List UInt8}
    (hw : Region.wanted ⟨dst, .call { callee := .builtin .append, args := #[s, x], argTypes := #[23, 23] }, ty, pos, af, g⟩ (yielded ops a.tmps) = true)
    (hs : a.eval s = v) (hx : a.eval x = v2) (ho : OwnB base w v l) (hm : Bytes w v2 m) (hlen : l.length + m.length ≤ 1000000) (hbase : base ≤ w.heap.size)
    (h : ∀ v' w', OwnB base w' v' (l ++ m) → Below base w w' → wpList Tryz.prog ops Q rest (a.put dst v') w') :
    wpList Tryz.prog ops Q (⟨dst, .call { callee := .builtin .append, args := #[s, x], argTypes := #[23, 23] }, ty, pos, af, g⟩ :: rest) a w := by
  refine wl_append base elem_byte hw hs hx ho hm (by simp) (one_bytes m) (by unfold maxLen; omega) (by omega) hbase ?_
  intro v' w' hown hg
  refine h v' w' ?_ (below_append (Below.refl _ _) (Nat.le_refl _) hbase ho hg)
  unfold OwnB
  rw [List.length_append, List.map_append]
  exact hown
theorem Bytes.cap {w : World} {a : Option Addr} {n c : Nat} {l : List UInt8} (h : Bytes w (.slice a n c) l) : l.length ≤ c ∧ c ≤ 9223372036854775807 := by
  obtain ⟨a', c', e, h1, h2, _⟩ := h
  cases e
  exact ⟨h1, h2⟩
end Go.Proofs.YtkjpcjccddggoaaGreat

namespace Go.Proofs.YtkjpcjccddggoaaGreat
set_option maxRecDepth 20000
open Go.RowKit
section
variable {P : Program} {ops : Array Oper} {Q : Exit → Act → World → Prop} {n : Nat}
/-! ### the frame: what has been done has its value in its slot -/
structure Fr (n : Nat) (ops : Array Oper) (on : Nat → Bool) (vs : Nat → Value) (a0 a : Act) : Prop where
  defers : a.defers = a0.defers
  size : a.tmps.size = a0.tmps.size
  got : ∀ i o d, i < n → on i = true → ops[i]? = some o → o.dst = some d → d < a0.tmps.size → a.tmps[d]? = some (vs i)
  old : ∀ k, (∀ i o, i < n → on i = true → ops[i]? = some o → o.dst ≠ some k) → a.tmps[k]? = a0.tmps[k]?
/-- no two of the first n operations yield into one slot -/
def dstsB (ops : Array Oper) (n : Nat) : Bool := decide (((List.range n).filterMap fun i => (ops[i]?).bind (·.dst)).Nodup)
theorem dsts_ne (hd : dstsB ops n = true) {i j : Nat} {o o' : Oper} {d : Tmp} (hi : i < n) (hj : j < n) (ho : ops[i]? = some o) (ho' : ops[j]? = some o') (h1 : o.dst = some d) (h2 : o'.dst = some d) : i = j := by
  have hN := of_decide_eq_true hd
  have key : ∀ m, ((List.range m).filterMap fun i => (ops[i]?).bind (·.dst)).Nodup → ∀ i j, i < j → j < m → (ops[i]?).bind (·.dst) = some d → (ops[j]?).bind (·.dst) = some d → False := by
    intro m
    induction m with
    | zero => intro _ i j _ h; omega
    | succ m ih =>
      intro hm i j hij hj h1 h2
      rw [List.range_succ, List.filterMap_append, List.nodup_append] at hm
      by_cases e : j = m
      · subst e
        refine hm.2.2 d (List.mem_filterMap.2 ⟨i, by simp; omega, h1⟩) d (List.mem_filterMap.2 ⟨j, by simp, h2⟩) rfl
      · exact ih hm.1 i j hij (by omega) h1 h2
  have e1 : (ops[i]?).bind (·.dst) = some d := by rw [ho]; exact h1
  have e2 : (ops[j]?).bind (·.dst) = some d := by rw [ho']; exact h2
  rcases Nat.lt_trichotomy i j with h | h | h
  · exact (key n hN i j h hj e1 e2).elim
  · exact h
  · exact (key n hN j i h hi e2 e1).elim
theorem Fr.put {on : Nat → Bool} {vs : Nat → Value} {a0 a : Act} (h : Fr n ops on vs a0 a) (hd : dstsB ops n = true) {i : Nat} {o : Oper} (hi : i < n) (ho : ops[i]? = some o) (hoff : on i = false) (v : Value)
    (on' : Nat → Bool) (hon' : ∀ j, j < n → on' j = (on j || decide (j = i))) : Fr n ops on' (fun j => if j = i then v else vs j) a0 (a.put o.dst v) := by
  have hs : (a.put o.dst v).tmps.size = a0.tmps.size := by
    unfold Act.put
    split
    · simpa using h.size
    · exact h.size
  refine ⟨?_, hs, ?_, ?_⟩
  · unfold Act.put
    split
    · exact h.defers
    · exact h.defers
  · intro j o' d hj hj' ho' hdd hlt
    rw [hon' j hj] at hj'
    by_cases e : j = i
    · subst e
      rw [ho] at ho'
      cases ho'
      simp only [if_true]
      unfold Act.put
      rw [hdd]
      simp only
      rw [Array.getElem?_setIfInBounds_self_of_lt (by rw [h.size]; exact hlt)]
    · simp only [if_neg e]
      have hj2 : on j = true := by simpa [e] using hj'
      have hne : o.dst ≠ some d := fun h1 => e (dsts_ne hd hj hi ho' ho hdd h1)
      unfold Act.put
      split
      · rename_i d' hd'
        have : d' ≠ d := fun h2 => hne (by rw [hd', h2])
        simp only
        rw [Array.getElem?_setIfInBounds_ne this]
        exact h.got j o' d hj hj2 ho' hdd hlt
      · exact h.got j o' d hj hj2 ho' hdd hlt
  · intro k hk
    have hne : o.dst ≠ some k := hk i o hi (by rw [hon' i hi]; simp) ho
    have hold := h.old k (fun j o' hj hj' ho' => hk j o' hj (by rw [hon' j hj, hj']; rfl) ho')
    unfold Act.put
    split
    · rename_i d' hd'
      have : d' ≠ k := fun h2 => hne (by rw [hd', h2])
      simp only
      rw [Array.getElem?_setIfInBounds_ne this]
      exact hold
    · exact hold
theorem Fr.tmp {on : Nat → Bool} {vs : Nat → Value} {a0 a : Act} (h : Fr n ops on vs a0 a) (i : Nat) {o : Oper} {d : Tmp} (hi : i < n) (hon : on i = true) (ho : ops[i]? = some o) (hd : o.dst = some d) (hs : Nat.blt d a0.tmps.size = true) : a.eval (.tmp d) = vs i := by
  have := h.got i o d hi hon ho hd (by simpa [Nat.blt_eq] using hs)
  simp [Act.eval, Array.getD_eq_getD_getElem?, this]
structure RG (n : Nat) (w0 : World) (wr : Nat → List Nat) (Φ : Nat → Value → World → Nat → Nat → Prop) (on : Nat → Bool) (w : World) (vs : Nat → Value) (lo hi : Nat → Nat) : Prop where
  bel : Below w0.heap.size w0 w
  bnd : ∀ i, i < n → on i = true → w0.heap.size ≤ lo i ∧ lo i ≤ hi i ∧ hi i ≤ w.heap.size
  dyn : ∀ i, i < n → on i = true → (∀ k, k < n → on k = true → i ∉ wr k) → Φ i (vs i) w (lo i) (hi i)
  apart : ∀ i j, i < n → j < n → on i = true → on j = true → i ≠ j → hi i ≤ lo j ∨ hi j ≤ lo i
/-- nothing that is there has turned but the blocks of S -/
structure KBut (S : Nat → Prop) (w w' : World) : Prop where
  os : w'.os = w.os
  tape : w'.tape = w.tape
  output : w'.output = w.output
  size : w.heap.size ≤ w'.heap.size
  block : ∀ k, k < w.heap.size → ¬ S k → w'.heap[k]? = w.heap[k]?
theorem KBut.of_below {w w' : World} {S : Nat → Prop} (h : Below w.heap.size w w') : KBut S w w' := ⟨h.os, h.tape, h.output, h.size, fun k hk _ => h.block k hk⟩
theorem KBut.of_grown {w w' : World} {row : Option Nat} {S : Nat → Prop} (h : w.grownBy w' row) (hS : ∀ k, row = some k → S k) : KBut S w w' := ⟨h.os, h.tape, h.output, h.size, fun k hk hn => h.block k hk (fun e => hn (hS k e.symm))⟩
theorem KBut.mono {w w' : World} {S S' : Nat → Prop} (h : KBut S w w') (hS : ∀ k, S k → S' k) : KBut S' w w' := ⟨h.os, h.tape, h.output, h.size, fun k hk hn => h.block k hk (fun e => hn (hS k e))⟩
theorem KBut.below {w w' : World} {S : Nat → Prop} {B : Nat} (h : KBut S w w') (hB : B ≤ w.heap.size) (hS : ∀ k, S k → B ≤ k) : Below B w w' := ⟨h.os, h.tape, h.output, h.size, fun k hk => h.block k (by omega) (fun e => by have := hS k e; omega)⟩
/-- what j's blocks are, for j of these -/
def ofB (wr : List Nat) (lo hi : Nat → Nat) (k : Nat) : Prop := ∃ j, j ∈ wr ∧ lo j ≤ k ∧ k < hi j
/-- each of the facts (but those of top) speaks of the old memory, and of its own blocks; and all of what is there -/
structure RGst (n : Nat) (w0 : World) (top : List Nat) (Φ : Nat → Value → World → Nat → Nat → Prop) : Prop where
  own : ∀ i v w w' lo hi, i < n → i ∉ top → Φ i v w lo hi → w0.heap.size ≤ lo → hi ≤ w.heap.size → KBut (fun k => w0.heap.size ≤ k ∧ (k < lo ∨ hi ≤ k)) w w' → Φ i v w' lo hi
  all : ∀ i v w w' lo hi, i < n → Φ i v w lo hi → hi ≤ w.heap.size → Below w.heap.size w w' → Φ i v w' lo hi
theorem RG.step {w0 w w' : World} {wr : Nat → List Nat} {Φ : Nat → Value → World → Nat → Nat → Prop} {on on' : Nat → Bool} {vs : Nat → Value} {lo hi : Nat → Nat} {i : Nat} {v : Value} {top : List Nat} (hR : RG n w0 wr Φ on w vs lo hi)
    (hst : RGst n w0 top Φ) (hi_ : i < n) (hB : KBut (ofB (wr i) lo hi) w w') (hw : ∀ j, j ∈ wr i → j < n ∧ on j = true) (ht : ∀ j, j < n → on j = true → j ∈ top → wr i = []) (hΦ : Φ i v w' w.heap.size w'.heap.size) (hon' : ∀ j, j < n → on' j = (on j || decide (j = i))) :
    RG n w0 wr Φ on' w' (fun j => if j = i then v else vs j) (fun j => if j = i then w.heap.size else lo j) (fun j => if j = i then w'.heap.size else hi j) := by
  have hs0 := hR.bel.size
  have hs1 := hB.size
  have hold : ∀ k, ofB (wr i) lo hi k → w0.heap.size ≤ k := by
    rintro k ⟨j, hj, h1, h2⟩
    obtain ⟨q1, q2⟩ := hw j hj
    have := (hR.bnd j q1 q2).1
    omega
  have hmono : ∀ k, k < n → on k = true → on' k = true := fun k hk h => by rw [hon' k hk, h]; rfl
  have honi : on' i = true := by rw [hon' i hi_]; simp
  refine ⟨hR.bel.trans (hB.below hs0 hold), fun j hj h => ?_, fun j hj h hlive => ?_, fun j k hj hk h1 h2 hne => ?_⟩
  · rw [hon' j hj] at h
    by_cases e : j = i
    · subst e
      simp only [if_true]
      exact ⟨hs0, hs1, Nat.le_refl _⟩
    · simp only [if_neg e]
      obtain ⟨f2, f3, f4⟩ := hR.bnd j hj (by simpa [e] using h)
      exact ⟨f2, f3, by omega⟩
  · rw [hon' j hj] at h
    by_cases e : j = i
    · subst e
      simp only [if_true]
      exact hΦ
    · simp only [if_neg e]
      have hjon : on j = true := by simpa [e] using h
      obtain ⟨f2, f3, f4⟩ := hR.bnd j hj hjon
      have f1 := hR.dyn j hj hjon (fun k hk hk2 => hlive k hk (hmono k hk hk2))
      have hjw : j ∉ wr i := hlive i hi_ honi
      by_cases hjt : j ∈ top
      · have hnil := ht j hj hjon hjt
        rw [hnil] at hB
        exact hst.all j _ _ _ _ _ hj f1 f4 (hB.below (Nat.le_refl _) (fun k hk => by obtain ⟨m, hm, _⟩ := hk; cases hm))
      · refine hst.own j _ _ _ _ _ hj hjt f1 f2 f4 (hB.mono fun k hk => ⟨hold k hk, ?_⟩)
        obtain ⟨m, hm, h1, h2⟩ := hk
        obtain ⟨q1, q2⟩ := hw m hm
        have hne : j ≠ m := fun e => hjw (by rw [e]; exact hm)
        have := hR.apart j m hj q1 hjon q2 hne
        omega
  · rw [hon' j hj] at h1
    rw [hon' k hk] at h2
    by_cases e : j = i
    · subst e
      have e2 : k ≠ j := fun h => hne h.symm
      simp only [if_true, if_neg e2]
      obtain ⟨_, _, f4⟩ := hR.bnd k hk (by simpa [e2] using h2)
      exact .inr f4
    · by_cases e2 : k = i
      · subst e2
        simp only [if_true, if_neg e]
        obtain ⟨_, _, f4⟩ := hR.bnd j hj (by simpa [e] using h1)
        exact .inl f4
      · simp only [if_neg e, if_neg e2]
        exact hR.apart j k hj hk (by simpa [e] using h1) (by simpa [e2] using h2) hne
end
/-! ### single operations -/
section
variable {P : Program} {ops : Array Oper} {Q : Exit → Act → World → Prop} {n : Nat} {w0 : World} {a0 : Act} {Φ : Nat → Value → World → Nat → Nat → Prop} {i : Nat} {o : Oper}
end
section
variable {P : Program} {Q : Exit → Act → World → Prop} {a : Act} {W : World} {dst : Option Tmp} {ty : TypeId} {pos : String} {af : Array Edge} {g : Option (Nat × Bool)} {Ψ : Value → World → Nat → Nat → Prop}
end
end Go.Proofs.YtkjpcjccddggoaaGreat

namespace Go.Proofs.YtkjpcjccddggoaaGreat
set_option maxRecDepth 20000
open Go.RowKit
section
variable {ops : Array Oper} {Q : Exit → Act → World → Prop} {rest : List Oper} {a : Act} {w : World} {dst : Option Tmp} {p q : Operand} {yt ty : TypeId} {pos : String} {af : Array Edge} {g : Option (Nat × Bool)}
end
theorem Below.setRow {B n : Nat} {w w1 : World} (h : Below B w w1) (hn : B ≤ n) (cs : Array Value) : Below B w (w1.setRow n cs) := below_row h n hn cs
end Go.Proofs.YtkjpcjccddggoaaGreat

namespace Go.Proofs.YtkjpcjccddggoaaGreat
set_option maxRecDepth 20000
open Go.RowKit
theorem ownsRow_block {w w' : World} {base : Nat} {e : TypeId} {size : Nat} {v : Value} {n : Nat} {xs : List Value} (h : w.ownsRow base e size v n xs) (hb : ∀ g, v.ownBlock = some g → w'.heap[g]? = w.heap[g]?) : w'.ownsRow base e size v n xs := by
  refine ⟨h.1, ?_⟩
  rcases h.2 with h2 | ⟨g, cap, cur, hv, hg, hh, r⟩
  · exact .inl h2
  · exact .inr ⟨g, cap, cur, hv, hg, (hb g (by rw [hv]; rfl)).trans hh, r⟩
section
variable {v : Value} {w w' : World} {lo hi B : Nat}
/-- a row of the operation's own -/
def RowΦ (e : TypeId) (size n : Nat) (xs : List Value) (v : Value) (W : World) (lo hi : Nat) : Prop := W.ownsRow lo e size v n xs ∧ ∀ g, v.ownBlock = some g → g < hi
theorem RowΦ.below {e : TypeId} {size n : Nat} {xs : List Value} (h : RowΦ e size n xs v w lo hi) (hh : hi ≤ w.heap.size) (hb : Below w.heap.size w w') : RowΦ e size n xs v w' lo hi :=
  ⟨ownsRow_block h.1 (fun g hg => hb.block g (by have := h.2 g hg; omega)), h.2⟩
theorem RowΦ.mk {e : TypeId} {size n : Nat} {xs : List Value} (h : w.ownsRow lo e size v n xs) : RowΦ e size n xs v w lo w.heap.size := ⟨h, fun g hg => (h.lt g hg).2⟩
/-- a variable of the operation's own -/
def VarΦ (cs : Array Value) (t : TypeId) (v : Value) (W : World) (lo hi : Nat) : Prop := ∃ b, v = .pointer (some ⟨b, 0, none⟩) ∧ lo ≤ b ∧ b < hi ∧ Blk W b cs t
theorem VarΦ.below {cs : Array Value} {t : TypeId} (h : VarΦ cs t v w lo hi) (hh : hi ≤ w.heap.size) (hb : Below w.heap.size w w') : VarΦ cs t v w' lo hi := by
  obtain ⟨b, h1, h2, h3, h4⟩ := h
  exact ⟨b, h1, h2, h3, (hb.block b (by omega)).trans h4⟩
/-- a row of constants of the operation's own -/
def LitΦ (cs : Array Value) (t : TypeId) (n : Nat) (v : Value) (W : World) (lo hi : Nat) : Prop := ∃ b, v = .slice (some ⟨b, 0, none⟩) n n ∧ lo ≤ b ∧ b < hi ∧ Blk W b cs t
theorem LitΦ.below {cs : Array Value} {t : TypeId} {n : Nat} (h : LitΦ cs t n v w lo hi) (hh : hi ≤ w.heap.size) (hb : Below w.heap.size w w') : LitΦ cs t n v w' lo hi := by
  obtain ⟨b, h1, h2, h3, h4⟩ := h
  exact ⟨b, h1, h2, h3, (hb.block b (by omega)).trans h4⟩
end
section
variable {P : Program} {Q : Exit → Act → World → Prop} {a : Act} {W : World} {dst : Option Tmp} {ty : TypeId} {pos : String} {af : Array Edge} {g : Option (Nat × Bool)} {Ψ : Value → World → Nat → Nat → Prop}
end
theorem LitΦ.bytes {cs : Array Value} {n : Nat} {v : Value} {W : World} {lo hi : Nat} {t : TypeId} (h : LitΦ cs t n v W lo hi) (l : List UInt8) (hl : l.length = n) (hc : cs.toList = l.map vb) (hm : n ≤ maxLen) : Bytes W v l := by
  obtain ⟨b, rfl, _, _, hb⟩ := h
  subst hl
  refine ⟨_, l.length, rfl, Nat.le_refl _, hm, by simp, fun j u hu => ⟨b, 0, rfl, ?_⟩⟩
  rw [Nat.zero_add, hb.cell]
  rw [← hc] at hu
  simpa using hu
end Go.Proofs.YtkjpcjccddggoaaGreat
