/- Tiles and canvases that came in. -/
import Derived.Test.YtneajhldmecllaaPlus
import Derived.Test.YtneajhldmecllaaTiles
namespace Go.Proofs.Ytneajhldmecllaa
open Go.RowKit

section
variable {H : Type} {enc : TypeId × Value → H} {w : World} {base : Nat} {spare : Nat → Bool} {held : Bool}

theorem tile_size : Try.prog.cellsOf 29 = 256 := by kernel_rfl
theorem u8_size : Try.prog.cellsOf 5 = 1 := by kernel_rfl

theorem col_of_trod {fuel : Nat} {cs : List Value} {x : DataW H × List MemPlace} (h : DataW.trod enc Try.prog w base spare held fuel 27 cs = some x) : ∃ c : Col, cs = [vb c.r, vb c.g, vb c.b, vb c.a] := by
  obtain ⟨y0, y1, y2, y3, n, _, hl, h0, h1, h2, h3⟩ := Go.Joins.trod_struct4 Try.underlying27 h
  rw [cellsOf_col] at hl
  simp only [u8_size] at h0 h1 h2 h3
  match cs, hl with
  | [v0, v1, v2, v3], _ =>
    obtain ⟨a0, e0⟩ := byte_of_trod Try.underlying5 h0
    obtain ⟨a1, e1⟩ := byte_of_trod Try.underlying5 h1
    obtain ⟨a2, e2⟩ := byte_of_trod Try.underlying5 h2
    obtain ⟨a3, e3⟩ := byte_of_trod Try.underlying5 h3
    simp at e0 e1 e2 e3
    exact ⟨⟨a0, a1, a2, a3⟩, by simp [e0, e1, e2, e3]⟩

theorem tcells_flat (T : List Col) : (tcells T).toList = T.flatMap fun c => [vb c.r, vb c.g, vb c.b, vb c.a] := by simp [tcells]

theorem tile_of_trod {fuel : Nat} {cs : List Value} {x : DataW H × List MemPlace} (h : DataW.trod enc Try.prog w base spare held fuel 29 cs = some x) : ∃ T : List Col, T.length = 64 ∧ cs = (tcells T).toList := by
  obtain ⟨xs, m, _, _, hl, hx, hi⟩ := DataW.trod_array Try.underlying29 h
  rw [tile_size] at hl
  rw [cellsOf_col] at hi
  obtain ⟨T, hT, hp⟩ := list_of_fn (α := Col) 64 (fun i c => (cs.drop (i * 4)).take 4 = [vb c.r, vb c.g, vb c.b, vb c.a]) (fun i hi' => by
    have := hi i hi'
    rw [List.getElem?_eq_getElem (by omega)] at this
    exact col_of_trod this)
  refine ⟨T, hT, ?_⟩
  rw [tcells_flat]
  apply List.ext_getElem?
  intro j
  have hlen := flatMap_len (fun c : Col => [vb c.r, vb c.g, vb c.b, vb c.a]) 4 (fun _ => rfl) T
  by_cases hj : j < 256
  · have h1 := hp (j / 4) (by omega)
    have h2 := flatMap_get (fun c : Col => [vb c.r, vb c.g, vb c.b, vb c.a]) 4 (fun _ => rfl) T (j / 4) (j % 4) (by omega) (by omega)
    rw [show j / 4 * 4 + j % 4 = j from by omega] at h2
    rw [h2, ← h1, List.getElem?_take, if_pos (by omega), List.getElem?_drop]
    congr 1
    omega
  · rw [List.getElem?_eq_none (by omega), List.getElem?_eq_none (by omega)]

theorem tlc_flat (L : List (List Col)) : tlc L = L.flatMap fun T => (tcells T).toList := rfl

theorem tiles_of_trod {fuel : Nat} {a : Option Addr} {n c : Nat} {x : DataW H × List MemPlace} (h : DataW.trod enc Try.prog w base spare held fuel 22 [.slice a n c] = some x) : ∃ L : List (List Col), L.length = n ∧ Tiles w (.slice a n c) L := by
  obtain ⟨l, hl, hs⟩ := rows_of_trod (α := { T : List Col // T.length = 64 }) (fun T => (tcells T.1).toList) 256 (by decide) (fun T => by rw [Array.length_toList, tcells_size, T.2]) tile_size Try.underlying22
    (fun _ _ _ h => by obtain ⟨T, hT, e⟩ := tile_of_trod h; exact ⟨⟨T, hT⟩, e⟩) h
  refine ⟨l.map (·.1), by simpa using hl, fun T hT => by obtain ⟨U, _, rfl⟩ := List.mem_map.1 hT; exact U.2, ?_⟩
  rw [tlc_flat, List.flatMap_map, List.length_map, hl]
  exact hs
end

end Go.Proofs.Ytneajhldmecllaa
