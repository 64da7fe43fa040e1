/- Appending bytes; numbers and bits. -/
import Derived.Test.YtpooakhmpfbmgaaSlLaw
namespace Go.Proofs.Ytpooakhmpfbmgaa
open Go.RowKit

theorem wl_append_bytes {ops : Array Oper} {Q : Exit → Act → World → Prop} {rest : List Oper} {a : Act} {w : World} {dst : Option Tmp} {s x : Operand} {ty : TypeId} {pos : String} {af : Array Edge} {g : Option (Nat × Bool)} (base : Nat) {v v2 : Value} {l m : List UInt8}
    (hw : Region.wanted ⟨dst, .call { callee := .builtin .append, args := #[s, x], argTypes := #[22, 22] }, ty, pos, af, g⟩ (yielded ops a.tmps) = true)
    (hs : a.eval s = v) (hx : a.eval x = v2) (ho : OwnB base w v l) (hm : Bytes w v2 m) (hlen : l.length + m.length ≤ 1000000) (hbase : base ≤ w.heap.size)
    (h : ∀ v' w', OwnB base w' v' (l ++ m) → Below base w w' → wpList Try.prog ops Q rest (a.put dst v') w') :
    wpList Try.prog ops Q (⟨dst, .call { callee := .builtin .append, args := #[s, x], argTypes := #[22, 22] }, ty, pos, af, g⟩ :: rest) a w := by
  refine wl_append base elem_byte hw hs hx ho hm (by simp) (one_bytes m) (by unfold maxLen; omega) (by omega) hbase ?_
  intro v' w' hown hg
  refine h v' w' ?_ (below_append (Below.refl _ _) (Nat.le_refl _) hbase ho hg)
  unfold OwnB
  rw [List.length_append, List.map_append]
  exact hown

theorem Bytes.cap {w : World} {a : Option Addr} {n c : Nat} {l : List UInt8} (h : Bytes w (.slice a n c) l) : l.length ≤ c ∧ c ≤ 9223372036854775807 := by
  obtain ⟨a', c', e, h1, h2, _⟩ := h
  cases e
  exact ⟨h1, h2⟩

theorem vb_mod (p : Nat) : (.int .u8 ((p : Int) % 256) : Value) = vb (UInt8.ofNat (p % 256)) := by
  have : (UInt8.ofNat (p % 256)).toNat = p % 256 := by simp
  unfold vb
  rw [this]
  exact congrArg _ (by omega)
theorem bits_or_u64 (m x : Nat) (hm : 256 * m + x < 18446744073709551616) (hx : x < 256) : bits BinOp.or IntKind.u64 ((m : Int) * 256) (x : Int) = ((256 * m + x : Nat) : Int) := by
  have h : (BitVec.ofInt 64 ((m : Int) * 256) ||| BitVec.ofInt 64 (x : Int)).toNat = 256 * m + x := by
    rw [BitVec.toNat_or, show (m : Int) * 256 = ((256 * m : Nat) : Int) from by omega, BitVec.ofInt_natCast, BitVec.ofInt_natCast, BitVec.toNat_ofNat, BitVec.toNat_ofNat, Nat.mod_eq_of_lt (by omega), Nat.mod_eq_of_lt (by omega)]
    exact (Nat.two_pow_add_eq_or_of_lt (i := 8) hx m).symm
  unfold bits
  show IntKind.u64.wrap (((BitVec.ofInt 64 ((m : Int) * 256) ||| BitVec.ofInt 64 (x : Int)).toNat : Nat) : Int) = _
  rw [h]
  simp [IntKind.wrap, IntKind.signed, IntKind.bits]
  omega
theorem one_own {w : World} {base : Nat} (x : UInt8) (h : base ≤ w.heap.size) : OwnB base (w.alloc (.cells #[vb x] 5)) (.slice (some ⟨w.heap.size, 0, none⟩) 1 1) [x] :=
  World.ownsRow_lit (base := base) (e := 5) (size := 1) w #[vb x] 1 h (by unfold maxLen; omega) rfl

end Go.Proofs.Ytpooakhmpfbmgaa
