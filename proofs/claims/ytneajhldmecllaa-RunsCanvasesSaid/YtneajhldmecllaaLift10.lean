/- Tiles and canvases as arguments of a law. -/
import Derived.Test.YtneajhldmecllaaLift
import Derived.Test.YtneajhldmecllaaOpenTiles
import Derived.Test.YtneajhldmecllaaRunsSmall
namespace Go.Proofs.Ytneajhldmecllaa
open Go.ChangeShapes Go.WideShapes Go.ChangeAt Go.RowKit

section
variable {H : Type} {enc : TypeId × Value → H} {w : World} {base b0 : Nat} {spare : Nat → Bool} {held : Bool} {r : Reach}

theorem tile_open {v : Value} {d : DataW H} {p : List MemPlace} (hv : Value.okWide Try.prog w r b0 29 v) (h : DataW.Trod enc Try.prog w base spare held 29 v d p) : ∃ T : List Col, T.length = 64 ∧ v = tileV T := by
  unfold Value.okWide at hv
  rw [tile_hu] at hv
  obtain ⟨cs, rfl, hsz, _⟩ := hv
  obtain ⟨fuel, hf⟩ := h
  obtain ⟨T, hT, e⟩ := tile_of_trod hf
  refine ⟨T, hT, ?_⟩
  unfold tileV
  congr 1
  apply Array.toList_inj.1
  exact e

theorem canvas_open {v : Value} {d : DataW H} {p : List MemPlace} (hv : Value.okWide Try.prog w r b0 43 v) (h : DataW.Trod enc Try.prog w base spare held 43 v d p) : ∃ (x y : Int) (a : Option Addr) (c : Nat) (L : List (List Col)), v = canV x y (.slice a L.length c) ∧ Tiles w (.slice a L.length c) L ∧ (-9223372036854775808 ≤ x ∧ x ≤ 9223372036854775807) ∧ (-9223372036854775808 ≤ y ∧ y ≤ 9223372036854775807) := by
  obtain ⟨v0, v1, v2, y0, y1, y2, n, rfl, rfl, rfl, h0, h1, h2⟩ := Go.Joins.open_agg3 Try.underlying43 (by kernel_rfl) (by kernel_rfl) hv h
  obtain ⟨x, e0, _, w0⟩ := DataW.trod_int Try.underlying3 h0
  obtain ⟨y, e1, _, w1⟩ := DataW.trod_int Try.underlying3 h1
  simp at e0 e1
  subst e0 e1
  obtain ⟨a, k, c, rfl⟩ : ∃ a k c, v2 = .slice a k c := by
    rcases DataW.trod_slice Try.underlying22 h2 with ⟨e, _⟩ | ⟨a, len, cap, _, _, _, _, e, _⟩
    · simp at e; exact ⟨_, _, _, e⟩
    · simp at e; exact ⟨_, _, _, e⟩
  obtain ⟨L, hl, ht⟩ := tiles_of_trod h2
  subst hl
  exact ⟨x, y, a, c, L, rfl, ht, bounds_i64 w0, bounds_i64 w1⟩
end

end Go.Proofs.Ytneajhldmecllaa
