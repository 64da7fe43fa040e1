/- A slice that is built of one tile. -/
import Derived.Test.YtneajhldmecllaaTileOps
import Derived.Great.FillDense
namespace Go.Proofs.Ytneajhldmecllaa
open Go.RowKit

theorem fill_tile1 (T : List Col) (hT : T.length = 64) (cells : Array Value) (hc : cells.size = 256) : Instr.fill (fun i => some (i * 256, 256)) cells [(0, tileV T)] = some (tcells T) := by
  have hz : (tcells T).size = 256 := by rw [tcells_size, hT]
  obtain ⟨r, hr, hs, hk⟩ := Great.fill_dense (s := 256) (by decide) [tileV T] 0 cells (by intro v hv; rw [List.mem_singleton] at hv; rw [hv]; exact hz) (by simp [hc])
  rw [show ([tileV T].zipIdx 0).map (fun x => (x.2, x.1)) = [(0, tileV T)] from rfl] at hr
  rw [hr]
  congr 1
  apply Array.ext_getElem?
  intro k
  rw [hk k]
  by_cases h : k < 256
  · rw [if_pos ⟨by omega, by simpa using h⟩, Nat.div_eq_of_lt h, Nat.mod_eq_of_lt h]
    rfl
  · rw [if_neg (by simp; omega), Array.getElem?_eq_none (by omega), Array.getElem?_eq_none (by omega)]

theorem run_buildSlice_tile (T : List Col) (hT : T.length = 64) (w : World) :
    (Instr.buildSlice 22 1 #[(0, tileV T)]).run Try.prog w = .ok (.slice (some ⟨w.heap.size, 0, none⟩) 1 1) (w.alloc (.cells (tcells T) 29)) := by
  have hi := tile_hi
  cases hq' : Try.prog.info? 29 with
  | none => simp [hq'] at hi
  | some i =>
    have hs : i.size = 256 := by simpa [hq'] using hi
    have hu : Try.prog.underlying 22 = some (.slice 29) := Try.underlying22
    have hso : (sizeOf 29).run Try.prog w = .ok 256 w := by simp [sizeOf, typeInfo, hq', hs]
    have hz : ((tileV noTile).cells).size = 256 := by kernel_rfl
    have hf := fill_tile1 T hT ((Array.range 256).map fun k => (tileV noTile).cells[k % (tileV noTile).cells.size]!) (by simp)
    unfold Instr.buildSlice
    simp only [Sem.run_bind, run_underlying hu w, Result.andThen_ok, hso, Nat.one_mul]
    simp [zeroTile, hf, newRow]

theorem wl_buildSlice_tile {ops : Array Oper} {Q : Exit → Act → World → Prop} {rest : List Oper} {a : Act} {w : World} {dst : Option Tmp} {p : Operand} {ty : TypeId} {pos : String} {af : Array Edge} {g : Option (Nat × Bool)} {T : List Col}
    (hw : Region.wanted ⟨dst, .buildSlice 22 1 #[(0, p)], ty, pos, af, g⟩ (yielded ops a.tmps) = true) (hp : a.eval p = tileV T) (hT : T.length = 64)
    (hk : wpList Try.prog ops Q rest (a.put dst (.slice (some ⟨w.heap.size, 0, none⟩) 1 1)) (w.alloc (.cells (tcells T) 29))) : wpList Try.prog ops Q (⟨dst, .buildSlice 22 1 #[(0, p)], ty, pos, af, g⟩ :: rest) a w :=
  wl_of hw (by
    have h := run_buildSlice_tile T hT w
    simp only [execOp, List.map_toArray, List.map_cons, List.map_nil, hp, Sem.run_bind, h, Result.andThen_ok, Sem.run_pure]) hk

end Go.Proofs.Ytneajhldmecllaa
