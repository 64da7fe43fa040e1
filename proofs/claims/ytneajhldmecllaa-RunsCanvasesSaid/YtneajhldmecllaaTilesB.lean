/- A slice that is built of tiles; worlds that are taken as variables. -/
import Derived.Test.YtneajhldmecllaaTiles
import Derived.Test.YtneajhldmecllaaTileBuild
namespace Go.Proofs.Ytneajhldmecllaa
open Go.RowKit

theorem fill_tiles (L : List (List Col)) (h : All64 L) (cells : Array Value) (hc : cells.size = L.length * 256) :
    Instr.fill (fun i => some (i * 256, 256)) cells (((L.map tileV).zipIdx 0).map fun x => (x.2, x.1)) = some (tlc L).toArray := by
  have hz : ∀ v ∈ L.map tileV, v.cells.size = 256 := by
    intro v hv
    obtain ⟨T, hT, rfl⟩ := List.mem_map.1 hv
    show (tcells T).size = 256
    rw [tcells_size, h T hT]
  obtain ⟨r, hr, hs, hk⟩ := Great.fill_dense (s := 256) (by decide) (L.map tileV) 0 cells hz (by simp [hc])
  rw [hr]
  congr 1
  apply Array.ext_getElem?
  intro k
  rw [hk k]
  have hl := tlc_len L h
  by_cases hlt : k < L.length * 256
  · have hd : k / 256 < L.length := by omega
    have hm : k % 256 < 256 := Nat.mod_lt _ (by decide)
    have hz' : (tcells L[k / 256]).size = 256 := by rw [tcells_size, h _ (by simp)]
    have h1 := tlc_get L h (k / 256) hd (k % 256) _ (Array.getElem?_eq_getElem (xs := tcells L[k / 256]) (by omega))
    rw [if_pos ⟨by omega, by simpa using hlt⟩, Nat.sub_zero, List.getElem?_map, List.getElem?_eq_getElem hd]
    rw [show k / 256 * 256 + k % 256 = k from by omega] at h1
    simp only [List.getElem?_toArray, h1]
    exact Array.getElem?_eq_getElem (xs := tcells L[k / 256]) (by omega)
  · rw [if_neg (by simp; omega), Array.getElem?_eq_none (by omega), Array.getElem?_eq_none (by simp; omega)]

theorem run_buildSlice_tiles (L : List (List Col)) (h : All64 L) (n : Nat) (hn : L.length = n) (h0 : 0 < n) (h1 : n ≤ 1000) (w : World) :
    (Instr.buildSlice 22 n (((L.map tileV).zipIdx 0).map fun x => (x.2, x.1)).toArray).run Try.prog w = .ok (.slice (some ⟨w.heap.size, 0, none⟩) n n) (w.alloc (.cells (tlc L).toArray 29)) := by
  subst hn
  have hi := tile_hi
  cases hq' : Try.prog.info? 29 with
  | none => simp [hq'] at hi
  | some i =>
    have hs : i.size = 256 := by simpa [hq'] using hi
    have hu : Try.prog.underlying 22 = some (.slice 29) := Try.underlying22
    have hso : (sizeOf 29).run Try.prog w = .ok 256 w := by simp [sizeOf, typeInfo, hq', hs]
    have hf := fill_tiles L h ((Array.range (L.length * 256)).map fun k => (tileV noTile).cells[k % (tileV noTile).cells.size]!) (by simp)
    unfold Instr.buildSlice
    simp only [Sem.run_bind, run_underlying hu w, Result.andThen_ok, hso]
    rw [if_neg (by omega)]
    simp [zeroTile, hf, newRow, show L.length * 256 ≠ 0 from by omega]

/-- a row of tiles that was built just now -/
theorem tiles_new (W : World) (L : List (List Col)) (h : All64 L) (n : Nat) (hn : L.length = n) (hm : n ≤ maxLen) : Tiles (W.alloc (.cells (tlc L).toArray 29)) (.slice (some ⟨W.heap.size, 0, none⟩) n n) L := by
  subst hn
  have h1 := IsSl.new (W := W) (n := W.heap.size) (cs := (tlc L).toArray) (t := 29) rfl hm
  exact ⟨h, by simpa using h1⟩

section
variable {ops : Array Oper} {Q : Exit → Act → World → Prop} {rest : List Oper} {a : Act} {w : World} {dst : Option Tmp} {p q : Operand} {ty : TypeId} {pos : String} {af : Array Edge} {g : Option (Nat × Bool)}
theorem wl_buildSlice_tiles1 {T : List Col}
    (hw : Region.wanted ⟨dst, .buildSlice 22 1 #[(0, p)], ty, pos, af, g⟩ (yielded ops a.tmps) = true) (hp : a.eval p = tileV T) (hT : T.length = 64)
    (hk : ∀ w' v, Below w.heap.size w w' → Tiles w' v [T] → wpList Try.prog ops Q rest (a.put dst v) w') : wpList Try.prog ops Q (⟨dst, .buildSlice 22 1 #[(0, p)], ty, pos, af, g⟩ :: rest) a w :=
  wl_of hw (by
    have h := run_buildSlice_tiles [T] (by simp [All64, hT]) 1 rfl (by decide) (by decide) w
    simp only [List.map_cons, List.map_nil, List.zipIdx_cons, List.zipIdx_nil] at h
    simp only [execOp, List.map_toArray, List.map_cons, List.map_nil, hp, Sem.run_bind, h, Result.andThen_ok, Sem.run_pure]) (hk _ _ ((Below.refl _ _).alloc (Nat.le_refl _) _) (tiles_new w [T] (by simp [All64, hT]) 1 rfl (by decide)))
theorem wl_buildSlice_tiles2 {T U : List Col}
    (hw : Region.wanted ⟨dst, .buildSlice 22 2 #[(0, p), (1, q)], ty, pos, af, g⟩ (yielded ops a.tmps) = true) (hp : a.eval p = tileV T) (hq : a.eval q = tileV U) (hT : T.length = 64) (hU : U.length = 64)
    (hk : ∀ w' v, Below w.heap.size w w' → Tiles w' v [T, U] → wpList Try.prog ops Q rest (a.put dst v) w') : wpList Try.prog ops Q (⟨dst, .buildSlice 22 2 #[(0, p), (1, q)], ty, pos, af, g⟩ :: rest) a w :=
  wl_of hw (by
    have h := run_buildSlice_tiles [T, U] (by simp [All64, hT, hU]) 2 rfl (by decide) (by decide) w
    simp only [List.map_cons, List.map_nil, List.zipIdx_cons, List.zipIdx_nil] at h
    simp only [execOp, List.map_toArray, List.map_cons, List.map_nil, hp, hq, Sem.run_bind, h, Result.andThen_ok, Sem.run_pure]) (hk _ _ ((Below.refl _ _).alloc (Nat.le_refl _) _) (tiles_new w [T, U] (by simp [All64, hT, hU]) 2 rfl (by decide)))
end

/-- the world is taken as a variable of which this is known -/
theorem gen_code {P : Program} {Q : Exit → Act → World → Prop} {a : Act} {c : Code} {w : World} (F : World → Prop) (hF : F w) (h : ∀ W, F W → c.wp P Q a W) : c.wp P Q a w := h w hF

end Go.Proofs.Ytneajhldmecllaa
