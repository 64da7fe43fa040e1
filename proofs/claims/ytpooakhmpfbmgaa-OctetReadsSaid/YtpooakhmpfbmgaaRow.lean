/- Variables of struct types: stored and loaded whole (any seat). -/
import Derived.Test.YtpooakhmpfbmgaaCanon
import Derived.Laws.Rows
import Derived.Laws.Tables
import Derived.Laws.CopyOwn
namespace Go.Proofs.Ytpooakhmpfbmgaa
open Go.RowKit

section
variable {P : Program} {ops : Array Oper} {Q : Exit → Act → World → Prop} {rest : List Oper} {a : Act} {w : World} {dst : Option Tmp} {p q : Operand} {yt ty t : TypeId} {pos : String} {af : Array Edge} {g : Option (Nat × Bool)}
theorem wl_store_row {n : Nat} {cs cs' : Array Value} (hw : Region.wanted ⟨dst, .store yt p q, ty, pos, af, g⟩ (yielded ops a.tmps) = true)
    (hp : a.eval p = .pointer (some ⟨n, 0, none⟩)) (hq : a.eval q = .agg cs') (hb : Blk w n cs t) (hi : (P.info? yt).map (·.size) = some cs'.size) (ho : cs.size = cs'.size) (h1 : cs'.all (·.oneCell') = true)
    (hk : wpList P ops Q rest (a.put dst undef) (w.setRow n cs')) : wpList P ops Q (⟨dst, .store yt p q, ty, pos, af, g⟩ :: rest) a w := by
  refine wl_skip hw ?_ hk
  have h := run_storeVar_row (P := P) w n t yt cs cs' hb hi ho h1
  simp only [execOp, hp, hq, Instr.storeAt, Instr.sureAddr, Sem.run_bind, Sem.run_pure, Result.andThen_ok, h]
theorem Blk.setRow {w : World} {b : Nat} {cs : Array Value} (h : Blk w b cs t) (cs' : Array Value) : Blk (w.setRow b cs') b cs' t := setRow_heap w b cs cs' t (0, 0) h
theorem Blk.setRowO {w : World} {b n : Nat} {cs : Array Value} (h : Blk w b cs t) (cs' : Array Value) (hne : n ≠ b) : Blk (w.setRow n cs') b cs t := (setRow_other _ _ _ _ (fun e => hne e.symm)).trans h
end

theorem wq_load_row {P : Program} {ops : Array Oper} {C : World → Prop} {Q : Act → Prop} {rest : List Oper} {a : Act} {dst : Option Tmp} {p : Operand} {lt ty t : TypeId} {pos : String} {af : Array Edge} {g : Option (Nat × Bool)} {b : Nat} {cs : Array Value} (d : TypeDesc)
    (hw : Region.wanted ⟨dst, .load lt p, ty, pos, af, g⟩ (yielded ops a.tmps) = true) (hp : a.eval p = .pointer (some ⟨b, 0, none⟩)) (hb : ∀ w, C w → Blk w b cs t)
    (hu : P.underlying lt = some d) (hd : (match d with | .struct _ | .array _ _ => true | _ => false) = true) (hi : (P.info? lt).map (·.size) = some cs.size)
    (hk : wpQuiet P ops C Q rest (a.put dst (.agg cs))) : wpQuiet P ops C Q (⟨dst, .load lt p, ty, pos, af, g⟩ :: rest) a :=
  wq_of hw (fun w hC => by
    simp only [execOp, hp, Instr.loadAt, Instr.sureAddr, Sem.run_bind, Sem.run_pure, Result.andThen_ok, run_loadVar_row w b t lt cs (0, 0) d (hb w hC) hu hd hi]) hk
theorem run_load_row {P : Program} {a : Act} {dst : Option Tmp} {p : Operand} {lt ty t : TypeId} {pos : String} {af : Array Edge} {g : Option (Nat × Bool)} {b : Nat} {cs : Array Value} {w : World} (d : TypeDesc)
    (hp : a.eval p = .pointer (some ⟨b, 0, none⟩)) (hb : Blk w b cs t) (hu : P.underlying lt = some d) (hd : (match d with | .struct _ | .array _ _ => true | _ => false) = true) (hi : (P.info? lt).map (·.size) = some cs.size) :
    (execOp a.eval ⟨dst, .load lt p, ty, pos, af, g⟩).run P w = .ok (.value (.agg cs)) w := by
  simp only [execOp, hp, Instr.loadAt, Instr.sureAddr, Sem.run_bind, Sem.run_pure, Result.andThen_ok, run_loadVar_row w b t lt cs (0, 0) d hb hu hd hi]

end Go.Proofs.Ytpooakhmpfbmgaa
