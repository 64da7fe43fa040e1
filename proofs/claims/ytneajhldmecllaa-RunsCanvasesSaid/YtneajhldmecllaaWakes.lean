/- gessolaw10.wakes: the layer does what it should at the inputs that the law names. -/
import Derived.Test.YtneajhldmecllaaTilesB
import Derived.Test.YtneajhldmecllaaRunsPatch
import Derived.Test.YtneajhldmecllaaRunsReadCan
import Derived.Test.YtneajhldmecllaaRunsSize
namespace Go.Proofs.Ytneajhldmecllaa
open Go.RowKit

theorem bytes_new (W : World) (l : List UInt8) (cs : Array Value) (t : TypeId) (n k : Nat) (hn : n = W.heap.size) (hk : l.length = k) (hc : cs.toList = l.map vb) (hm : k ≤ maxLen) : Bytes (W.alloc (.cells cs t)) (.slice (some ⟨n, 0, none⟩) k k) l := by
  subst hk
  have h := IsSl.new (W := W) (n := n) (cs := cs) (t := t) hn hm
  rw [hc] at h
  exact h

def spotT : List Col := noTile.set 0 ⟨255, 0, 0, 255⟩
theorem spotT_len : spotT.length = 64 := by kernel_rfl
theorem eq1 : canvasB 2 1 [noTile, noTile] = [2, 1, 0, 0] := by kernel_rfl
theorem eq2 : canvasB 1 1 [spotT] = [1, 1, 1, 255, 0, 0, 255, 63, 0, 0, 0, 0] := by kernel_rfl
theorem eq3 : readTile [32, 0, 0, 0, 0, 32, 0, 0, 0, 0] = none := by kernel_rfl
theorem eq4 : readCan [1, 1, 0, 9] = some (1, 1, [noTile], 3) := by kernel_rfl
theorem eq5 : readCan [1, 1, 64, 0, 0, 0, 0] = none := by kernel_rfl
theorem eq6 : patchB 2 1 [noTile, noTile] [noTile, noTile] = [2, 1, 0, 0] := by kernel_rfl
theorem eq7 : enc noTile = [64, 0, 0, 0, 0] := by kernel_rfl
theorem eq8 : sizeOfT [noTile, spotT] = 15 := by kernel_rfl
theorem ok1 : canOk 2 1 [noTile, noTile].length = true := by decide
theorem ok2 : canOk 1 1 [spotT].length = true := by decide
theorem no1 : patchNo 2 1 2 1 [noTile, noTile].length [noTile, noTile].length = 0 := by decide

theorem w_canvas1 (v : Value) (w : World) (h : Tiles w v [noTile, noTile]) :
    Calls Try.prog 19 #[canV 2 1 v] w fun e w' => ∃ v', e = .returned (.tuple #[v', .int .i64 0]) ∧ Bytes w' v' [2, 1, 0, 0] ∧ Below w.heap.size w w' := by
  refine (canvas_any 2 1 v _ w h (by decide)).mono ?_
  rintro e w' ⟨v', rfl, ho, hb⟩
  rw [ok1] at ho ⊢
  rw [if_pos rfl, show canvasB (2 : Int).toNat (1 : Int).toNat [noTile, noTile] = _ from eq1] at ho
  exact ⟨v', rfl, ho.bytes, hb⟩
theorem w_canvas2 (v : Value) (w : World) (h : Tiles w v [spotT]) :
    Calls Try.prog 19 #[canV 1 1 v] w fun e w' => ∃ v', e = .returned (.tuple #[v', .int .i64 0]) ∧ Bytes w' v' [1, 1, 1, 255, 0, 0, 255, 63, 0, 0, 0, 0] ∧ Below w.heap.size w w' := by
  refine (canvas_any 1 1 v _ w h (by decide)).mono ?_
  rintro e w' ⟨v', rfl, ho, hb⟩
  rw [ok2] at ho ⊢
  rw [if_pos rfl, show canvasB (1 : Int).toNat (1 : Int).toNat [spotT] = _ from eq2] at ho
  exact ⟨v', rfl, ho.bytes, hb⟩
theorem w_readtile (v : Value) (w : World) (h : Bytes w v [32, 0, 0, 0, 0, 32, 0, 0, 0, 0]) :
    Calls Try.prog 14 #[v] w fun e w' => e = .returned (.tuple #[tileV noTile, .int .i64 0, .int .i64 200]) ∧ Below w.heap.size w w' := by
  refine (readtile_any v _ w h).mono ?_
  rintro e w' ⟨hb, rfl⟩
  rw [eq3]
  exact ⟨rfl, hb⟩
theorem w_readcan1 (v : Value) (w : World) (h : Bytes w v [1, 1, 0, 9]) :
    Calls Try.prog 20 #[v] w fun e w' => ∃ a n c, e = .returned (.tuple #[canV 1 1 (.slice a n c), .int .i64 3, .int .i64 0]) ∧ Below w.heap.size w w' := by
  refine (readcan_any v _ w h).mono ?_
  rintro e w' ⟨hb, hr⟩
  rw [eq4] at hr
  obtain ⟨tl, rfl, ho⟩ := hr
  obtain ⟨a, c, rfl, _⟩ := ownsRow_slice ho.2
  exact ⟨a, _, c, rfl, hb⟩
theorem w_readcan2 (v : Value) (w : World) (h : Bytes w v [1, 1, 64, 0, 0, 0, 0]) :
    Calls Try.prog 20 #[v] w fun e w' => e = .returned (.tuple #[canV 0 0 (.slice none 0 0), .int .i64 0, .int .i64 200]) ∧ Below w.heap.size w w' := by
  refine (readcan_any v _ w h).mono ?_
  rintro e w' ⟨hb, hr⟩
  rw [eq5] at hr
  exact ⟨hr, hb⟩
theorem w_patch (v : Value) (w : World) (h : Tiles w v [noTile, noTile]) :
    Calls Try.prog 23 #[canV 2 1 v, canV 2 1 v] w fun e w' => ∃ v', e = .returned (.tuple #[v', .int .i64 0]) ∧ Bytes w' v' [2, 1, 0, 0] ∧ Below w.heap.size w w' := by
  refine (patch_any 2 1 2 1 v v _ _ w h h (by decide)).mono ?_
  rintro e w' ⟨v', rfl, ho, hb⟩
  rw [no1] at ho ⊢
  rw [if_pos rfl, show patchB (2 : Int).toNat (1 : Int).toNat [noTile, noTile] [noTile, noTile] = _ from eq6] at ho
  exact ⟨v', rfl, ho.bytes, hb⟩
theorem w_tile (w : World) :
    Calls Try.prog 10 #[tileV noTile] w fun e w' => ∃ v', e = .returned v' ∧ Bytes w' v' [64, 0, 0, 0, 0] ∧ Below w.heap.size w w' := by
  refine (tile_any noTile noTile_len w).mono ?_
  rintro e w' ⟨v', rfl, ho, hb⟩
  rw [eq7] at ho
  exact ⟨v', rfl, OwnB.bytes (base := w.heap.size) ho, hb⟩
theorem w_size (v : Value) (w : World) (h : Tiles w v [noTile, spotT]) :
    Calls Try.prog 16 #[v] w fun e w' => e = .returned (.int .i64 15) ∧ Below w.heap.size w w' := by
  refine (size_any v _ w h (by decide)).mono ?_
  rintro e w' ⟨rfl, hb⟩
  rw [eq8]
  exact ⟨rfl, hb⟩
theorem w_equal (l : List UInt8) (v1 v2 : Value) (w : World) (h1 : Bytes w v1 l) (h2 : Bytes w v2 l) :
    Calls Try.prog 11 #[v1, v2] w fun e w' => e = .returned (.bool true) ∧ Below w.heap.size w w' := by
  refine (equal_bytes v1 v2 l l w h1 h2).mono ?_
  rintro e w' ⟨rfl, hb⟩
  exact ⟨by simp, hb⟩

end Go.Proofs.Ytneajhldmecllaa
