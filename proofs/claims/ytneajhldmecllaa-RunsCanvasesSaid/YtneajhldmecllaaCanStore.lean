/- A canvas that is stored into a variable of its own; the contracts of Patch and Apply, each for one answer. -/
import Derived.Test.YtneajhldmecllaaCon10
import Derived.Test.YtneajhldmecllaaRG
namespace Go.Proofs.Ytneajhldmecllaa
open Go.RowKit

section
variable {ops : Array Oper} {Q : Exit → Act → World → Prop} {rest : List Oper} {a : Act} {w : World} {dst : Option Tmp} {p q : Operand} {yt ty : TypeId} {pos : String} {af : Array Edge} {g : Option (Nat × Bool)}
theorem op_store_can (ev : Operand → Value) {n : Nat} {x0 y0 s0 : Value} {t : TypeId} {x y : Int} {ad : Option Addr} {k c : Nat} {W : World} (hp : ev p = .pointer (some ⟨n, 0, none⟩)) (hq : ev q = canV x y (.slice ad k c)) (hb : Blk W n #[x0, y0, s0] t) :
    (execOp ev ⟨dst, .store 43 p q, ty, pos, af, g⟩).run Try.prog W = .ok .skip (W.setRow n #[.int .i64 x, .int .i64 y, .slice ad k c]) := by
  have h := run_storeVar_row (P := Try.prog) W n t 43 #[x0, y0, s0] #[.int .i64 x, .int .i64 y, .slice ad k c] hb can_hi rfl (by simp [Value.oneCell'])
  simp only [execOp, hp, hq, Instr.storeAt, Instr.sureAddr, Sem.run_bind, Sem.run_pure, Result.andThen_ok, h]
theorem wl_store_can {n : Nat} {x0 y0 s0 : Value} {t : TypeId} {x y : Int} {ad : Option Addr} {k c : Nat} {W : World} (hw : Region.wanted ⟨dst, .store 43 p q, ty, pos, af, g⟩ (yielded ops a.tmps) = true)
    (hp : a.eval p = .pointer (some ⟨n, 0, none⟩)) (hq : a.eval q = canV x y (.slice ad k c)) (hb : Blk W n #[x0, y0, s0] t)
    (hk : wpList Try.prog ops Q rest (a.put dst undef) (W.setRow n #[.int .i64 x, .int .i64 y, .slice ad k c])) : wpList Try.prog ops Q (⟨dst, .store 43 p q, ty, pos, af, g⟩ :: rest) a W :=
  wl_skip hw (op_store_can _ hp hq hb) hk
end

theorem rg_load_can {Q : Exit → Act → World → Prop} {a : Act} {W : World} {dst : Option Tmp} {ty : TypeId} {pos : String} {af : Array Edge} {g : Option (Nat × Bool)} {Ψ : Value → World → Nat → Nat → Prop} {p : Operand} {b : Nat} {x y s : Value} {t : TypeId}
    (hp : a.eval p = .pointer (some ⟨b, 0, none⟩)) (hb : Blk W b #[x, y, s] t) (h : Ψ (.agg #[x, y, s]) W W.heap.size W.heap.size) : (⟨dst, .load 43 p, ty, pos, af, g⟩ : Oper).wp Try.prog a W (RGp W a dst Ψ) Q :=
  rg_val (v := .agg #[x, y, s]) (W' := W) (by
    have := run_loadVar_can W b 0 x y s (hb.cell 0) (hb.cell 1) (hb.cell 2)
    simp only [execOp, hp, Instr.loadAt, Instr.sureAddr, Sem.run_bind, Sem.run_pure, Result.andThen_ok, this]) (Below.refl _ _) h

theorem Blk.setRowO {w : World} {b n : Nat} {cs : Array Value} {t : TypeId} (h : Blk w b cs t) (cs' : Array Value) (hne : n ≠ b) : Blk (w.setRow n cs') b cs t := (setRow_other _ _ _ _ (fun e => hne e.symm)).trans h
theorem Below.setRow {B n : Nat} {w w1 : World} (h : Below B w w1) (hn : B ≤ n) (cs : Array Value) : Below B w (w1.setRow n cs) := below_row h n hn cs
/-- what is the call's own from lo on, and lies below hi, stays as it is where another row is written -/
theorem OwnT.setRowO {w : World} {base n : Nat} {v : Value} {L : List (List Col)} (h : OwnT base w v L) (cs : Array Value) (hne : v.ownBlock ≠ some n) : OwnT base (w.setRow n cs) v L :=
  ⟨h.1, h.2.kept (gb_setRow (gb_refl w _) cs) (.inr hne)⟩
theorem OwnT.ltB {w : World} {base g : Nat} {v : Value} {L : List (List Col)} (h : OwnT base w v L) (hg : v.ownBlock = some g) : base ≤ g ∧ g < w.heap.size := by
  have := h.2.lt g hg
  exact ⟨this.1, this.2⟩

theorem c_patch_yes (x y : Nat) (v v' : Value) (A B : List (List Col)) (w : World) (hA : Tiles w v A) (hB : Tiles w v' B) (hl : B.length ≤ 1000) (okA : canOk x y A.length = true) (okB : canOk x y B.length = true) :
    Calls Try.prog 23 #[canV x y v, canV x y v'] w fun e w' => ∃ a c, e = .returned (.tuple #[.slice a (patchB x y A B).length c, .int .i64 0]) ∧ Bytes w' (.slice a (patchB x y A B).length c) (patchB x y A B) ∧ Below w.heap.size w w' := by
  refine (patch_any x y x y v v' A B w hA hB hl).mono ?_
  rintro e w' ⟨u, rfl, ho, hb⟩
  have hno : patchNo x y x y A.length B.length = 0 := by unfold patchNo; rw [okA, okB]; simp
  rw [hno] at ho ⊢
  rw [if_pos rfl] at ho
  obtain ⟨a, c, rfl, _⟩ := ownsRow_slice ho
  exact ⟨a, c, rfl, OwnB.bytes (base := w.heap.size) ho, hb⟩
theorem c_patch_no (x y x' y' : Int) (v v' : Value) (A B : List (List Col)) (w : World) (hA : Tiles w v A) (hB : Tiles w v' B) (hl : B.length ≤ 1000) (hno : patchNo x y x' y' A.length B.length ≠ 0) :
    Calls Try.prog 23 #[canV x y v, canV x' y' v'] w fun e w' => ∃ a c, e = .returned (.tuple #[.slice a 0 c, .int .i64 (patchNo x y x' y' A.length B.length)]) ∧ Below w.heap.size w w' := by
  refine (patch_any x y x' y' v v' A B w hA hB hl).mono ?_
  rintro e w' ⟨u, rfl, ho, hb⟩
  rw [if_neg hno] at ho
  obtain ⟨a, c, rfl, _⟩ := ownsRow_slice ho
  exact ⟨a, c, rfl, hb⟩
theorem c_apply_yes (x y : Nat) (ov bv : Value) (O : List (List Col)) (l : List UInt8) (A : List (List Col)) (n : Nat) (w : World) (hO : Tiles w ov O) (hb : Bytes w bv l) (okO : canOk x y O.length = true) (hr : readApp x y O l = some (x, y, A, n)) :
    Calls Try.prog 28 #[canV x y ov, bv] w fun e w' => ∃ a c, e = .returned (.tuple #[canV x y (.slice a A.length c), .int .i64 n, .int .i64 0]) ∧ OwnT w.heap.size w' (.slice a A.length c) A ∧ Below w.heap.size w w' := by
  refine (apply_any x y ov bv O l w hO hb).mono ?_
  rintro e w' ⟨hB, he⟩
  rw [okO, show readApp (x : Int).toNat (y : Int).toNat O l = _ from hr] at he
  unfold AppRet at he
  rw [if_pos rfl] at he
  obtain ⟨tl, rfl, ho⟩ := he
  obtain ⟨a, c, rfl, _⟩ := ownsRow_slice ho.2
  exact ⟨a, c, rfl, ho, hB⟩

end Go.Proofs.Ytneajhldmecllaa
