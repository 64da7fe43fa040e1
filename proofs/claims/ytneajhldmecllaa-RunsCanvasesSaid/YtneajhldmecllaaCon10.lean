/- The contracts of layer 10, each for one answer. -/
import Derived.Test.YtneajhldmecllaaRunsPure3
import Derived.Test.YtneajhldmecllaaOwnCan
namespace Go.Proofs.Ytneajhldmecllaa
open Go.RowKit

/-- append of bytes to a row of the call's own -/
theorem wl_append_bytes {ops : Array Oper} {Q : Exit → Act → World → Prop} {rest : List Oper} {a : Act} {w : World} {dst : Option Tmp} {s x : Operand} {ty : TypeId} {pos : String} {af : Array Edge} {g : Option (Nat × Bool)} (base : Nat) {v v2 : Value} {l m : List UInt8}
    (hw : Region.wanted ⟨dst, .call { callee := .builtin .append, args := #[s, x], argTypes := #[23, 23] }, ty, pos, af, g⟩ (yielded ops a.tmps) = true)
    (hs : a.eval s = v) (hx : a.eval x = v2) (ho : OwnB base w v l) (hm : Bytes w v2 m) (hlen : l.length + m.length ≤ 1000000) (hbase : base ≤ w.heap.size)
    (h : ∀ v' w', OwnB base w' v' (l ++ m) → Below base w w' → wpList Try.prog ops Q rest (a.put dst v') w') :
    wpList Try.prog ops Q (⟨dst, .call { callee := .builtin .append, args := #[s, x], argTypes := #[23, 23] }, ty, pos, af, g⟩ :: rest) a w := by
  refine wl_append base elem_byte hw hs hx ho hm (by simp) (one_bytes m) (by unfold maxLen; omega) (by omega) hbase ?_
  intro v' w' hown hg
  refine h v' w' ?_ (below_append (Below.refl _ _) (Nat.le_refl _) hbase ho hg)
  unfold OwnB
  rw [List.length_append, List.map_append]
  exact hown

theorem Bytes.cap {w : World} {a : Option Addr} {n c : Nat} {l : List UInt8} (h : Bytes w (.slice a n c) l) : l.length ≤ c ∧ c ≤ 9223372036854775807 := by
  obtain ⟨a', c', e, h1, h2, _⟩ := h
  cases e
  exact ⟨h1, h2⟩

theorem canvasB_len (a b : Nat) (L : List (List Col)) (hL : All64 L) : (canvasB a b L).length ≤ 2 + 325 * L.length := by
  unfold canvasB headB
  have := bodyB_len (aheadZ L) L hL 0
  simp
  omega
theorem patchB_len (a b : Nat) (O L : List (List Col)) (hL : All64 L) : (patchB a b O L).length ≤ 2 + 325 * L.length := by
  unfold patchB headB
  have := bodyB_len (oldZ O) L hL 0
  simp
  omega

theorem c_readtile_yes (v : Value) (l : List UInt8) (T : List Col) (n : Nat) (w : World) (h : Bytes w v l) (hr : readTile l = some (T, n)) :
    Calls Try.prog 14 #[v] w fun e w' => e = .returned (.tuple #[tileV T, .int .i64 n, .int .i64 0]) ∧ Below w.heap.size w w' := by
  refine (readtile_any v _ w h).mono ?_
  rintro e w' ⟨hb, rfl⟩
  rw [hr]
  exact ⟨rfl, hb⟩
theorem c_readtile_no (v : Value) (l : List UInt8) (w : World) (h : Bytes w v l) (hr : readTile l = none) :
    Calls Try.prog 14 #[v] w fun e w' => e = .returned (.tuple #[tileV noTile, .int .i64 0, .int .i64 200]) ∧ Below w.heap.size w w' := by
  refine (readtile_any v _ w h).mono ?_
  rintro e w' ⟨hb, rfl⟩
  rw [hr]
  exact ⟨rfl, hb⟩
theorem c_readcan_yes (v : Value) (l : List UInt8) (x y : Nat) (A : List (List Col)) (n : Nat) (w : World) (h : Bytes w v l) (hr : readCan l = some (x, y, A, n)) :
    Calls Try.prog 20 #[v] w fun e w' => ∃ a c, e = .returned (.tuple #[canV x y (.slice a A.length c), .int .i64 n, .int .i64 0]) ∧ OwnT w.heap.size w' (.slice a A.length c) A ∧ Below w.heap.size w w' := by
  refine (readcan_any v _ w h).mono ?_
  rintro e w' ⟨hb, he⟩
  rw [hr] at he
  obtain ⟨tl, rfl, ho⟩ := he
  obtain ⟨a, c, rfl, _⟩ := ownsRow_slice ho.2
  exact ⟨a, c, rfl, ho, hb⟩
theorem c_readcan_no (v : Value) (l : List UInt8) (w : World) (h : Bytes w v l) (hr : readCan l = none) :
    Calls Try.prog 20 #[v] w fun e w' => e = .returned (.tuple #[canV 0 0 (.slice none 0 0), .int .i64 0, .int .i64 200]) ∧ Below w.heap.size w w' := by
  refine (readcan_any v _ w h).mono ?_
  rintro e w' ⟨hb, he⟩
  rw [hr] at he
  exact ⟨he, hb⟩
theorem c_canvas_yes (x y : Nat) (v : Value) (L : List (List Col)) (w : World) (hL : Tiles w v L) (hl : L.length ≤ 1000) (hok : canOk x y L.length = true) :
    Calls Try.prog 19 #[canV x y v] w fun e w' => ∃ a c, e = .returned (.tuple #[.slice a (canvasB x y L).length c, .int .i64 0]) ∧ Bytes w' (.slice a (canvasB x y L).length c) (canvasB x y L) ∧ Below w.heap.size w w' := by
  refine (canvas_any x y v L w hL hl).mono ?_
  rintro e w' ⟨v', rfl, ho, hb⟩
  rw [hok] at ho ⊢
  rw [if_pos rfl] at ho
  obtain ⟨a, c, rfl, _⟩ := ownsRow_slice ho
  exact ⟨a, c, rfl, OwnB.bytes (base := w.heap.size) ho, hb⟩
theorem c_canvas_no (x y : Int) (v : Value) (L : List (List Col)) (w : World) (hL : Tiles w v L) (hl : L.length ≤ 1000) (hok : canOk x y L.length = false) :
    Calls Try.prog 19 #[canV x y v] w fun e w' => ∃ a c, e = .returned (.tuple #[.slice a 0 c, .int .i64 150]) ∧ Bytes w' (.slice a 0 c) [] ∧ Below w.heap.size w w' := by
  refine (canvas_any x y v L w hL hl).mono ?_
  rintro e w' ⟨v', rfl, ho, hb⟩
  rw [hok] at ho ⊢
  rw [if_neg (by simp)] at ho
  obtain ⟨a, c, rfl, _⟩ := ownsRow_slice ho
  exact ⟨a, c, rfl, OwnB.bytes (base := w.heap.size) ho, hb⟩
theorem c_alike (x y : Int) (v v' : Value) (L : List (List Col)) (w : World) (hL : Tiles w v L) (hM : Tiles w v' L) :
    Calls Try.prog 21 #[canV x y v, canV x y v'] w fun e w' => e = .returned (.bool true) ∧ Below w.heap.size w w' := by
  refine (alike_any x y x y v v' L L w hL hM).mono ?_
  rintro e w' ⟨rfl, hb⟩
  exact ⟨by simp, hb⟩
theorem c_own (x y : Int) (v : Value) (L : List (List Col)) (w : World) (hL : Tiles w v L) :
    Calls Try.prog 18 #[canV x y v] w fun e w' => ∃ a c M, e = .returned (canV x y (.slice a M.length c)) ∧ OwnT w.heap.size w' (.slice a M.length c) M ∧ Hid (M = L.take 17) ∧ M.length ≤ 17 ∧ Below w.heap.size w w' := by
  refine (own_any x y v L w hL).mono ?_
  rintro e w' ⟨v', rfl, ho, hb⟩
  obtain ⟨a, c, rfl, _⟩ := ownsRow_slice ho.2
  exact ⟨a, c, _, rfl, ho, Lib.hid rfl, by simp; omega, hb⟩
theorem c_size (v : Value) (T : List Col) (hT : T.length = 64) (w : World) (h : Tiles w v [T]) :
    Calls Try.prog 16 #[v] w fun e w' => e = .returned (.int .i64 (enc T).length) ∧ Below w.heap.size w w' := by
  refine (size_any v _ w h (by simp)).mono ?_
  rintro e w' ⟨rfl, hb⟩
  have : sizeOfT [T] = (enc T).length := by rw [enc_len T hT]; simp [sizeOfT]
  rw [this]
  exact ⟨rfl, hb⟩

end Go.Proofs.Ytneajhldmecllaa
