/- Walks by data and names, part 49: How long a slice is at most that came in. What all lifts share. -/
import Derived.SizedLaws
import Derived.ProofKit
import Derived.Deep.Slices
import Derived.ShutString
import Derived.ChangeOld
import Derived.Test.YtkjpcjccddggoaaGreatQk35
namespace Go.Proofs.YtkjpcjccddggoaaGreat
theorem sized_sl {H : Type} {enc : TypeId × Value → H} {P : Program} {w : World} {base : Nat} {spare : Nat → Bool} {held : Bool} {t e : TypeId} {x : DataW H} {p : List MemPlace} {a : Option Addr} {n c : Nat} (ht : P.underlying t = some (.slice e))
    (hx : ∃ fuel, DataW.trod enc P w base spare held fuel t [.slice a n c] = some (x, p)) {ts : List TypeId} {ds : List (DataW H)} {j : Nat} (hts : ts[j]? = some t) (hds : ds[j]? = some x) (hsz : (DataW.weightsEach P ts ds).all (· ≤ reachBytes) = true) : n * P.bytesOf e ≤ 140737488351232 := by
  obtain ⟨fuel, hx⟩ := hx
  rcases Deep.open_slice ht hx with ⟨h, _⟩ | ⟨ad, len, cap, m, k, D, Pl, h, _, _, _, _, hd, _⟩
  · simp only [List.cons.injEq, Value.slice.injEq] at h
    rw [h.1.2.1]; simp
  · simp only [List.cons.injEq, Value.slice.injEq] at h
    cases hd
    have := sized_slice hsz hts hds ht
    simp only [List.length_map, List.length_range, reachBytes] at this
    rw [h.1.2.1]
    rw [Nat.add_mul] at this
    omega
end Go.Proofs.YtkjpcjccddggoaaGreat

namespace Go.Proofs.YtkjpcjccddggoaaGreat
open Go.ChangeShapes Go.WideShapes Go.ChangeAt Go.RowKit
theorem l_own : ownKnob Tryz.prog.godebug = none := by kernel_rfl
theorem l_laidOut : laidOutB Tryz.prog = true := by kernel_rfl
end Go.Proofs.YtkjpcjccddggoaaGreat
