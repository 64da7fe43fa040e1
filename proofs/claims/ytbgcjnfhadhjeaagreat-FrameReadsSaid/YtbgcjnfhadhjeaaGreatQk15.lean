/- Walks by data and names, part 15: Walks in short: what comes next as one relation, one step as one lemma, calls as one lemma. -/
import Derived.Test.YtbgcjnfhadhjeaaGreatQk14
namespace Go.Proofs.YtbgcjnfhadhjeaaGreat
set_option maxRecDepth 20000
open Go.RowKit
def Ju (Q : VE → St → Prop) : VE → St → Prop
 | .goto _, _ => False
 | e, s => Q e s
theorem ST {P : Program} {cx : Cx} {c : Code} {s : St} {Q : VE → St → Prop} (h : VW P cx c s (Ju Q)) : VW P cx (.scope c) s Q := fun n g0 w0 g a w hE hS => by
 refine H6 (wpIn_mono (h n g0 w0 g a w hE hS) ?_)
 rintro e a' w' ⟨g', s', e', k1, k2, k3, k4⟩
 cases e' with
 | normal => simp only [BV] at k3; subst k3; exact ⟨g', s', .normal, k1, k2, rfl, k4⟩
 | exit id => simp only [BV] at k3; subst k3; exact ⟨g', s', .exit id, k1, k2, rfl, k4⟩
 | goto id => exact k4.elim
 | ret => simp only [BV] at k3; subst k3; exact ⟨g', s', .ret, k1, k2, rfl, k4⟩
 | panic v => obtain ⟨u, rfl, k⟩ := k3; exact ⟨g', s', .panic v, k1, k2, ⟨u, rfl, k⟩, k4⟩
inductive NX : Prop → Prop
 | n1 {P cx ops s} {Q : VE → St → Prop} (h : Q .normal s) : NX (VL P cx ops [] s Q)
 | n2 {P cx id l s Q} (h : VL P cx l l s Q) : NX (VW P cx (.region id l.toArray false) s Q)
 | n3 {P cx c Q s} (h : VW P cx c s Q) : NX (KR P cx c Q .normal s)
 | n4 {P cx s} {Q : VE → St → Prop} (h : Q .normal s) : NX (VW P cx .skip s Q)
 | n5 {P cx id x s Q} (h : VW P cx x s (DT id Q)) : NX (VW P cx (.block id x) s Q)
 | n6 {P cx id s} {Q : VE → St → Prop} (h : Q (.exit id) s) : NX (VW P cx (.exit id) s Q)
 | n7 {i s} {Q : VE → St → Prop} (h : Q .normal s) : NX (DT i Q .normal s)
 | n8 {P cx c i s} {Q : VE → St → Prop} (h : Q (.exit i) s) : NX (KR P cx c Q (.exit i) s)
 | n9 {P cx c s} {Q : VE → St → Prop} (h : Q .ret s) : NX (KR P cx c Q .ret s)
 | n10 {P cx c s v} {Q : VE → St → Prop} (h : Q (.panic v) s) : NX (KR P cx c Q (.panic v) s)
 | n11 {i s} {Q : VE → St → Prop} (h : Q .ret s) : NX (DT i Q .ret s)
 | n12 {i s v} {Q : VE → St → Prop} (h : Q (.panic v) s) : NX (DT i Q (.panic v) s)
 | n13 {s} {K : St → Prop} {Q : VE → St → Prop} (h : K s) : NX (Mx K Q .normal s)
 | n14 {s i} {K : St → Prop} {Q : VE → St → Prop} (h : Q (.exit i) s) : NX (Mx K Q (.exit i) s)
 | n15 {s} {K : St → Prop} {Q : VE → St → Prop} (h : Q .ret s) : NX (Mx K Q .ret s)
 | n16 {s v} {K : St → Prop} {Q : VE → St → Prop} (h : Q (.panic v) s) : NX (Mx K Q (.panic v) s)
 | n17 {α : Type} {cx s i} {I : α → St} {T : α → Prop} {μ : α → Nat} {x : α} {Q : VE → St → Prop} (h : Q (.exit i) s) : NX (MM cx I T μ x Q (.exit i) s)
 | n18 {α : Type} {cx s} {I : α → St} {T : α → Prop} {μ : α → Nat} {x : α} {Q : VE → St → Prop} (h : Q .ret s) : NX (MM cx I T μ x Q .ret s)
 | n19 {α : Type} {cx s v} {I : α → St} {T : α → Prop} {μ : α → Nat} {x : α} {Q : VE → St → Prop} (h : Q (.panic v) s) : NX (MM cx I T μ x Q (.panic v) s)
 | n20 {α : Type} {cx s i} {I : α → St} {T : α → Prop} {Q : VE → St → Prop} (h : Q (.exit i) s) : NX (Qq cx I T Q (.exit i) s)
 | n21 {α : Type} {cx s} {I : α → St} {T : α → Prop} {Q : VE → St → Prop} (h : Q .ret s) : NX (Qq cx I T Q .ret s)
 | n22 {α : Type} {cx s v} {I : α → St} {T : α → Prop} {Q : VE → St → Prop} (h : Q (.panic v) s) : NX (Qq cx I T Q (.panic v) s)
 | n23 {P cx c Q m s} (h : VW P cx c s (Mx (RV P cx c Q m) Q)) : NX (RV P cx c Q (m + 1) s)
 | n24 {P cx s} {Q : VE → St → Prop} (h : Q .ret s) : NX (VW P cx .ret s Q)
 | n25 {P tm st nb} {post : R → Prop} (k : post (.ret (.tup []))) : NX (Fw P [] post .normal ⟨tm, st, nb⟩)
 | n26 {P tm st nb} {post : R → Prop} (k : post (.ret (.tup []))) : NX (Fw P [] post .ret ⟨tm, st, nb⟩)
 | n27 {P cx ops rest t tm Q v st nb} (h : VL P cx ops rest ⟨(t, v) :: tm, st, nb⟩ Q) : NX (LH P cx ops rest t tm Q (.ret v) st nb)
 | n28 {P cx ops rest t tm v st nb} {Q : VE → St → Prop} (h : Q (.panic v) ⟨tm, st, nb⟩) : NX (LH P cx ops rest t tm Q (.panic v) st nb)
 | n29 {P tm st nb} {K : RC → List E → Nat → Prop} (k : K (.ret (.tup [])) st nb) : NX (Hl P [] K .normal ⟨tm, st, nb⟩)
 | n30 {P rs tm st nb v} {K : RC → List E → Nat → Prop} (k : K (.panic v) st nb) : NX (Hl P rs K (.panic v) ⟨tm, st, nb⟩)
 | n31 {P cx ops rest s} {K : St → Prop} (h : VL P cx ops rest s (Rs K)) : NX (AbR P cx ops rest K .normal s)
 | n32 {s} {K : St → Prop} (h : K s) : NX (Rs K .normal s)
 | n33 {P B rs fd ca Q tm st nb} (h : VDf P fd B ca none st nb (No P rs tm Q)) : NX (Ue P B rs fd ca Q .ret ⟨tm, st, nb⟩)
 | n34 {P B rs fd ca Q tm st nb} (h : VDf P fd B ca none st nb (No P rs tm Q)) : NX (Ue P B rs fd ca Q .normal ⟨tm, st, nb⟩)
 | n35 {P B rs fd ca Q tm st nb v} (h : VDf P fd B ca (some v) st nb (No P rs tm Q)) : NX (Ue P B rs fd ca Q (.panic v) ⟨tm, st, nb⟩)
 | n36 {tm st nb} {K : List E → Nat → Prop} (h : K st nb) : NX (AaI K .normal ⟨tm, st, nb⟩)
 | n37 {tm st nb} {K : List E → Nat → Prop} (h : K st nb) : NX (AaI K .ret ⟨tm, st, nb⟩)
 | n38 {P tm st nb} {K : RC → List E → Nat → Prop} (k : K (.ret (.tup [])) st nb) : NX (Hl P [] K .ret ⟨tm, st, nb⟩)
 | n39 {P cx l s} {Q : VE → St → Prop} (h : Q .normal s) : NX (VW P cx (.label l) s Q)
 | n40 {P cx c s} {Q : VE → St → Prop} (h : VW P cx c s (Ju Q)) : NX (VW P cx (.scope c) s Q)
 | n41 {s} {Q : VE → St → Prop} (h : Q .normal s) : NX (Ju Q .normal s)
 | n42 {s} {Q : VE → St → Prop} (h : Q .ret s) : NX (Ju Q .ret s)
 | n43 {s i} {Q : VE → St → Prop} (h : Q (.exit i) s) : NX (Ju Q (.exit i) s)
 | n44 {s v} {Q : VE → St → Prop} (h : Q (.panic v) s) : NX (Ju Q (.panic v) s)
theorem NX.go {g : Prop} (h : NX g) : g := by
 cases h with
 | n1 h => exact PA h
 | n2 h => exact RW h
 | n4 h => exact Wp h
 | n5 h => exact SZ h
 | n6 h => exact Wr h
 | n24 h => exact Y8 h
 | n25 k => exact Ac8 k
 | n26 k => exact AbD k
 | n29 k => exact Adi k
 | n32 h => exact XN h
 | n38 k => exact ⟨[], .nil, k⟩
 | n39 h => exact SU h
 | n40 h => exact ST h
 | _ h => exact h
def JS (P : Program) (cx : Cx) (ops : List Oper) (o : Oper) (s s' : St) : Prop := ∀ rest Q, VL P cx ops rest s' Q → VL P cx ops (o :: rest) s Q
section
variable {P : Program} {cx : Cx} {tm : List (Nat × V)} {st : List E} {nb : Nat} {s s' : St} {Q : VE → St → Prop} {ops rest : List Oper} {o : Oper} {d : Tmp} {op : Op} {ty : TypeId} {pos : String} {af : Array Edge} {gd : Option (Nat × Bool)}
theorem IM {v : V} (hw : Wd ops tm gd := by first | exact trivial | exact A1 rfl rfl (by with_reducible rfl))
  (h : Bq P cx op ty ⟨tm, st, nb⟩ v := by first | ((with_reducible apply P0); rfl) | ((with_reducible apply Lj); rfl) | ((with_reducible apply UY); first | ((with_reducible apply NA) <;> rfl) | ((with_reducible apply Nz) <;> rfl) | ((with_reducible apply Lg) <;> (first | rfl | assumption)) | ((with_reducible apply Kr) <;> rfl) | ((with_reducible apply Ny); rfl; rfl; (first | rfl | assumption); rfl) | ((with_reducible apply Lf); rfl; rfl; (first | rfl | assumption); exact Nat.le_of_ble_eq_true rfl)) | ((with_reducible apply U0); first | ((with_reducible apply P4); rfl) | ((with_reducible apply P5); rfl) | ((with_reducible apply P3); rfl)) | ((with_reducible apply Qd); first | ((with_reducible apply ZX) <;> rfl) | ((with_reducible apply ZR) <;> rfl) | ((with_reducible apply ZS) <;> rfl) | ((with_reducible apply ZT) <;> rfl) | ((with_reducible apply ZU) <;> rfl) | ((with_reducible apply ZV) <;> rfl) | ((with_reducible apply UR); rfl; rfl; (simp only [I6]; omega)) | ((with_reducible apply Ux); rfl; rfl; (simp only [I6]; omega)) | ((with_reducible apply UD); rfl; rfl; (simp only [I6]; omega)) | ((with_reducible apply PY) <;> rfl) | ((with_reducible apply PZ) <;> rfl) | ((with_reducible apply P9) <;> rfl) | ((with_reducible apply Qa) <;> rfl) | ((with_reducible apply UO) <;> rfl) | ((with_reducible apply UC) <;> rfl) | ((with_reducible apply P7); rfl; rfl; decide) | ((with_reducible apply P8); rfl; rfl; decide) | ((with_reducible apply OQ) <;> rfl) | ((with_reducible apply UB) <;> rfl) | ((with_reducible apply NG); rfl; rfl; exact fun _ => rfl) | ((with_reducible apply UN); rfl; rfl; rfl; rfl; rfl; rfl; assumption) | ((with_reducible apply PW); rfl; rfl; rfl; rfl; rfl; rfl; assumption) | ((with_reducible apply PX); rfl; rfl; rfl; rfl; rfl; rfl; assumption) | ((with_reducible apply OP); rfl; rfl; rfl; rfl; rfl; rfl; assumption)) | ((with_reducible apply UW); first | ((with_reducible apply PQ); exact FG rfl (by with_reducible rfl)) | ((with_reducible apply PR); exact FG rfl (by with_reducible rfl)) | ((with_reducible apply UA); rfl) | ((with_reducible apply PP); rfl; exact fun _ => rfl)) | ((with_reducible apply Nv); exact FG rfl (by with_reducible rfl); rfl) | ((with_reducible apply Nx); exact FG rfl (by with_reducible rfl); rfl) | ((with_reducible apply Qc); first | ((with_reducible apply PT); rfl) | ((with_reducible apply PV); rfl) | ((with_reducible apply PS); rfl) | ((with_reducible apply PU); rfl)) | ((with_reducible apply NI); first | ((with_reducible apply UJ) <;> rfl) | ((with_reducible apply UG) <;> rfl) | ((with_reducible apply UH) <;> rfl)) | ((with_reducible apply UM) <;> rfl) | ((with_reducible apply P6) <;> rfl) | ((with_reducible apply UF) <;> rfl) | ((with_reducible apply UE); rfl) | ((with_reducible apply UZ); first | ((with_reducible apply P2); rfl; rfl; omega; omega) | ((with_reducible apply UL); rfl; rfl; rfl; omega; (first | rfl | assumption); (first | rfl | assumption)) | ((with_reducible apply P1); rfl; rfl; rfl; omega; omega)) | ((with_reducible apply NF) <;> rfl) | ((with_reducible apply Li) <;> rfl) | ((with_reducible apply UX); first | ((with_reducible apply Lc) <;> rfl) | ((with_reducible apply Ld) <;> rfl) | ((with_reducible apply Nu); rfl; rfl; rfl; rfl; (first | exact Int.le_refl _ | omega | (simp only [Option.getD]; omega)); (simp only [Option.getD]; omega); (first | exact Int.le_refl _ | (simp only [Option.getD]; omega)); (first | assumption | (simp; fail_if_success (focus skip)))) | ((with_reducible apply Jz); rfl; rfl; rfl; rfl; (first | exact Int.le_refl _ | omega); (first | exact Int.le_refl _ | omega)) | ((with_reducible apply Le); rfl; rfl; rfl; rfl; rfl; (first | exact Int.le_refl _ | (simp only [Option.getD]; omega)); (simp only [Option.getD]; omega); (first | exact Int.le_refl _ | omega); (first | assumption | (simp; fail_if_success (focus skip))))) | ((with_reducible apply NB); rfl; rfl; rfl; rfl; omega; omega; (first | rfl | assumption)) | ((with_reducible apply NC) <;> rfl) | ((with_reducible apply Lh) <;> rfl) | ((with_reducible apply ZP) <;> rfl) | ((with_reducible apply Uw) <;> rfl) | ((with_reducible apply Qb); rfl; (first | exact .sl | exact .nil)) | ((with_reducible apply NE); rfl; (simp only [I6]; omega)) | ((with_reducible apply ND); rfl))
  (hd : Nat.blt d cx.N = true := by rfl) (hn : BS op = true := by rfl) : JS P cx ops ⟨some d, op, ty, pos, af, gd⟩ ⟨tm, st, nb⟩ ⟨(d, v) :: tm, st, nb⟩ := fun _ _ k => Wz h hw hd hn k
theorem TM {v : V} {e : E} (hw : Wd ops tm gd := by first | exact trivial | exact A1 rfl rfl (by with_reducible rfl))
  (h : Qs P cx op ty tm st v nb e := by first | (with_reducible apply Kq) | ((with_reducible apply Rf) <;> rfl) | ((with_reducible apply Xm) <;> rfl) | ((with_reducible apply Nr); rfl; rfl; omega; omega; decide; rfl) | ((with_reducible apply Ns); rfl; rfl; (first | exact .row rfl | exact .nil | exact .sl (by first | assumption | (simp; fail_if_success (focus skip)))); (first | omega | (focus (simp; fail_if_success (focus skip))) | (simp; omega)); decide) | ((with_reducible apply Nt); rfl; (first | exact .rv rfl (Nat.le_refl _) | exact .rv rfl (by omega) | exact .sl (by first | assumption | (simp; fail_if_success (focus skip)))); rfl; (first | exact .row rfl | exact .sl (by first | assumption | (simp; fail_if_success (focus skip)))); (first | omega | simp); (first | omega | (focus (simp; fail_if_success (focus skip))) | (simp; omega)); decide))
  (hd : Nat.blt d cx.N = true := by rfl) (hn : BS op = true := by rfl) : JS P cx ops ⟨some d, op, ty, pos, af, gd⟩ ⟨tm, st, nb⟩ ⟨(d, v) :: tm, e :: st, nb + 1⟩ := fun _ _ k => Wx h.v hw hd hn k
theorem Zx {v : V} {st' : List E} {nb' : Nat} (hw : Wd ops tm gd := by first | exact trivial | exact A1 rfl rfl (by with_reducible rfl))
  (h : Y4 P cx op ty ⟨tm, st, nb⟩ v st' nb' := by
   first
    | ((with_reducible apply WK); rfl; rfl; rfl; (first | exact .row rfl | exact .nil | exact .sl (by first | assumption | (simp; fail_if_success (focus skip)))); (first | rfl | (simp; fail_if_success (focus skip))))
    | ((with_reducible apply Zp); rfl; rfl; rfl; (first | exact .row rfl | exact .nil | exact .sl (by first | assumption | (simp; fail_if_success (focus skip)))); (first | omega | (focus (simp; fail_if_success (focus skip))) | (simp; omega)); decide))
  (hd : Nat.blt d cx.N = true := by rfl) (hn : BS op = true := by rfl) : JS P cx ops ⟨some d, op, ty, pos, af, gd⟩ ⟨tm, st, nb⟩ ⟨(d, v) :: tm, st', nb'⟩ := fun _ _ k => Wx h hw hd hn k
theorem Abz {st' : List E} {nb' : Nat} (hw : Wd ops tm gd := by first | exact trivial | exact A1 rfl rfl (by with_reducible rfl))
  (h : Y5 P cx op ty ⟨tm, st, nb⟩ st' nb' := by
   first
    | ((with_reducible apply Bi) <;> rfl)
    | ((with_reducible apply Mv); rfl; rfl; (first | rfl | assumption); rfl; rfl; rfl; rfl; rfl))
  (hn : BS op = true := by rfl) : JS P cx ops ⟨none, op, ty, pos, af, gd⟩ ⟨tm, st, nb⟩ ⟨tm, st', nb'⟩ := fun _ _ k => Zh h hw hn k
theorem QR {j : Nat} {b : Bool} {t : Nat} {v : V} (h1 : (ops[j]?).bind (·.dst) = some t := by rfl) (h2 : AA t tm = some v := by rfl) (hc : HF b v := by first | ((with_reducible apply HF.tf); with_reducible rfl) | ((with_reducible apply HF.ft); with_reducible rfl)) (hd : Nat.blt d cx.N = true := by rfl) :
  JS P cx ops ⟨some d, op, ty, pos, af, some (j, b)⟩ ⟨tm, st, nb⟩ ⟨(d, .d (.lit undef)) :: tm, st, nb⟩ := fun _ _ k => let ⟨_, e, hc⟩ := hc.of; Wy h1 (h2.trans (congrArg some e)) hc hd k
theorem Oq {j : Nat} {b : Bool} {t : Nat} (h1 : (ops[j]?).bind (·.dst) = some t := by rfl) (h2 : AA t tm = some (.d (.lit undef)) := by rfl) (hd : Nat.blt d cx.N = true := by rfl) :
  JS P cx ops ⟨some d, op, ty, pos, af, some (j, b)⟩ ⟨tm, st, nb⟩ ⟨(d, .d (.lit undef)) :: tm, st, nb⟩ := fun _ _ k => Tf h1 h2 hd k
def opK : Op → Nat
 | .alloc _ => 1
 | .box _ _ => 1
 | .buildSlice _ _ _ => 1
 | .makeSlice _ _ _ => 1
 | .store _ _ _ => 3
 | .panic _ => 5
 | .defer _ => 6
 | .call c => (match c.callee with
  | .value _ => 4
  | .invoke _ _ => 4
  | .builtin .append => 2
  | .builtin .copy => 2
  | .builtin .recover => 6
  | .builtin _ => 0)
 | _ => 0
theorem RX {P : Program} {cx : Cx} {ops rest : List Oper} {o : Oper} {s : St} {Q : VE → St → Prop} (n : Nat) (h : VL P cx ops (o :: rest) s Q) (_ : Nat.beq (opK o.op) n = true := by rfl) : VL P cx ops (o :: rest) s Q := h
theorem To {P : Program} {cx : Cx} {Q : VE → St → Prop} {l : List Oper} {tm0 : List (Nat × V)} {AO stO : List E} {nb0 : Nat} {ds : List Nat} {hd tl : List Oper} {i : Nat} {acc : List Ac} {tm : List (Nat × V)} {st : List E} {nb : Nat} {o : Oper} (n : Nat)
  (h : VD P cx l tm0 AO stO nb0 ds Q (o :: hd) tl i acc tm st nb) (_ : Nat.beq (opK o.op) n = true := by rfl) : VD P cx l tm0 AO stO nb0 ds Q (o :: hd) tl i acc tm st nb := h
theorem Abn {P : Program} {cx : Cx} {ops rest : List Oper} {d : Option Tmp} {op : Op} {ty : TypeId} {pos : String} {af : Array Edge} {gd : Nat × Bool} {s : St} {Q : VE → St → Prop} (h : VL P cx ops (⟨d, op, ty, pos, af, some gd⟩ :: rest) s Q) : VL P cx ops (⟨d, op, ty, pos, af, some gd⟩ :: rest) s Q := h
theorem Abt {P : Program} {cx : Cx} {Q : VE → St → Prop} {l : List Oper} {tm0 : List (Nat × V)} {AO stO : List E} {nb0 : Nat} {ds : List Nat} {hd tl : List Oper} {i : Nat} {acc : List Ac} {tm : List (Nat × V)} {st : List E} {nb : Nat} {d : Option Tmp} {op : Op} {ty : TypeId} {pos : String} {af : Array Edge} {gd : Nat × Bool}
  (h : VD P cx l tm0 AO stO nb0 ds Q (⟨d, op, ty, pos, af, some gd⟩ :: hd) tl i acc tm st nb) : VD P cx l tm0 AO stO nb0 ds Q (⟨d, op, ty, pos, af, some gd⟩ :: hd) tl i acc tm st nb := h
theorem H7 (k : VL P cx ops rest s' Q) (h : JS P cx ops o s s' := by first | exact IM | exact Abz | exact TM | exact Zx | exact QR | exact Oq) : VL P cx ops (o :: rest) s Q := h _ _ k
theorem Abg (k : VL P cx ops rest s' Q) (h : JS P cx ops o s s' := by first | exact QR | exact Oq) : VL P cx ops (o :: rest) s Q := h _ _ k
theorem Abf (k : VL P cx ops rest s' Q) (h : JS P cx ops o s s' := by exact IM) : VL P cx ops (o :: rest) s Q := h _ _ k
theorem Abe (k : VL P cx ops rest s' Q) (h : JS P cx ops o s s' := by exact TM) : VL P cx ops (o :: rest) s Q := h _ _ k
theorem Abc (k : VL P cx ops rest s' Q) (h : JS P cx ops o s s' := by first | exact TM | exact Zx) : VL P cx ops (o :: rest) s Q := h _ _ k
theorem Abd (k : VL P cx ops rest s' Q) (h : JS P cx ops o s s' := by exact Abz) : VL P cx ops (o :: rest) s Q := h _ _ k
def Pu (P : Program) (cx : Cx) (ops : List Oper) (o : Oper) (s s' : St) (f : FuncId) (ds : List D) (post : R → Prop) : Prop := VP P f ds post → JS P cx ops o s s'
section
variable {t : Tmp} {x : Operand} {f : FuncId} {xs : Array Operand} {tys : Array TypeId} {v : V} {vs az : List V} {ds' ds : List D} {dd : D}
theorem TX (hx : Af ⟨tm, st, nb⟩ x = some v := by rfl) (hv : AY ⟨tm, st, nb⟩ xs.toList = some vs := by rfl) (hf : GL v vs = some (f, az) := by rfl) (ha : AD st az ds' := by first | exact Jl rfl | ((repeat' (first | exact HD | exact HE | ((apply FM); rfl))); fail_if_success (focus skip))) (hd : El ds' ds := by ((repeat' (first | exact Dj | with_reducible apply CN | with_reducible exact Ex _ | with_reducible exact Gk _ | infer_instance | with_reducible apply Ez | with_reducible apply Ey | with_reducible apply Gj | with_reducible apply Gl | with_reducible apply BN | assumption | apply BN)); fail_if_success (focus skip))) (hw : Wd ops tm gd := by first | exact trivial | exact A1 rfl rfl (by with_reducible rfl)) (ht : Nat.blt t cx.N = true := by rfl) :
  Pu P cx ops ⟨some t, .call { callee := .value x, args := xs, argTypes := tys }, ty, pos, af, gd⟩ ⟨tm, st, nb⟩ ⟨(t, .d dd) :: tm, st, nb⟩ f ds (· = .ret dd) := fun hc _ _ k => Tg hc hx hv hf ha hd hw ht k
theorem TY {e : TypeId} {sz : Nat} {l : List (List D)} (hx : Af ⟨tm, st, nb⟩ x = some v := by rfl) (hv : AY ⟨tm, st, nb⟩ xs.toList = some vs := by rfl) (hf : GL v vs = some (f, az) := by rfl) (ha : AD st az ds' := by first | exact Jl rfl | ((repeat' (first | exact HD | exact HE | ((apply FM); rfl))); fail_if_success (focus skip))) (hd : El ds' ds := by ((repeat' (first | exact Dj | with_reducible apply CN | with_reducible exact Ex _ | with_reducible exact Gk _ | infer_instance | with_reducible apply Ez | with_reducible apply Ey | with_reducible apply Gj | with_reducible apply Gl | with_reducible apply BN | assumption | apply BN)); fail_if_success (focus skip))) (hw : Wd ops tm gd := by first | exact trivial | exact A1 rfl rfl (by with_reducible rfl)) (ht : Nat.blt t cx.N = true := by rfl) :
  Pu P cx ops ⟨some t, .call { callee := .value x, args := xs, argTypes := tys }, ty, pos, af, gd⟩ ⟨tm, st, nb⟩ ⟨(t, .row nb 0) :: tm, .r true true nb 0 e sz l :: st, nb + 1⟩ f ds (· = .own e sz l) := fun hc _ _ k => Zj hc hx hv hf ha hd hw ht k
theorem QZ (hx : Af ⟨tm, st, nb⟩ x = some v := by rfl) (hv : AY ⟨tm, st, nb⟩ xs.toList = some vs := by rfl) (hf : GL v vs = some (f, az) := by rfl) (ha : C2 st 64 az = some ds' := by rfl) (hd : El ds' ds := by ((repeat' (first | exact Dj | with_reducible apply CN | with_reducible exact Ex _ | with_reducible exact Gk _ | infer_instance | with_reducible apply Ez | with_reducible apply Ey | with_reducible apply Gj | with_reducible apply Gl | with_reducible apply BN | assumption | apply BN)); fail_if_success (focus skip))) (hfl : FV dd := by infer_instance) (hw : Wd ops tm gd := by first | exact trivial | exact A1 rfl rfl (by with_reducible rfl)) (ht : Nat.blt t cx.N = true := by rfl) :
  Pu P cx ops ⟨some t, .call { callee := .value x, args := xs, argTypes := tys }, ty, pos, af, gd⟩ ⟨tm, st, nb⟩ ⟨(t, .d dd) :: tm, st, nb⟩ f ds (· = .ret dd) := fun hc _ _ k => Nb hc hx hv hf ha hd hfl hw ht (fun _ e => by cases e; exact k) (fun _ _ _ e => by cases e) (fun _ e => by cases e)
theorem OB {e : TypeId} {sz : Nat} {l : List (List D)} (hx : Af ⟨tm, st, nb⟩ x = some v := by rfl) (hv : AY ⟨tm, st, nb⟩ xs.toList = some vs := by rfl) (hf : GL v vs = some (f, az) := by rfl) (ha : C2 st 64 az = some ds' := by rfl) (hd : El ds' ds := by ((repeat' (first | exact Dj | with_reducible apply CN | with_reducible exact Ex _ | with_reducible exact Gk _ | infer_instance | with_reducible apply Ez | with_reducible apply Ey | with_reducible apply Gj | with_reducible apply Gl | with_reducible apply BN | assumption | apply BN)); fail_if_success (focus skip))) (hfl : FN l := by infer_instance) (hw : Wd ops tm gd := by first | exact trivial | exact A1 rfl rfl (by with_reducible rfl)) (ht : Nat.blt t cx.N = true := by rfl) :
  Pu P cx ops ⟨some t, .call { callee := .value x, args := xs, argTypes := tys }, ty, pos, af, gd⟩ ⟨tm, st, nb⟩ ⟨(t, .row nb 0) :: tm, .r true true nb 0 e sz l :: st, nb + 1⟩ f ds (· = .own e sz l) := fun hc _ _ k => Nb hc hx hv hf ha hd hfl hw ht (fun _ e => by cases e) (fun _ _ _ e => by cases e; exact k) (fun _ e => by cases e)
end
theorem Ag {f : FuncId} {ds : List D} {post : R → Prop} (hc : VP P f ds post) (k : VL P cx ops rest s' Q) (h : Pu P cx ops o s s' f ds post := by first | exact TX | exact TY | exact QZ | exact OB) : VL P cx ops (o :: rest) s Q := h hc _ _ k
end
structure Wf (P : Program) (l : List Oper) (n : Nat) (hd tl : List Oper) : Prop where
 hB : RJ l n = true
 hm : P.follows .mixedOrders = true
 hsp : Hh n l = some (hd, tl)
theorem Ob {P : Program} {cx : Cx} {l : List Oper} {Q : VE → St → Prop} {id n nb : Nat} {tm : List (Nat × V)} {st : List E} {hd tl : List Oper} (h : VD P cx l tm st st nb (X6 hd) Q hd tl 0 [] tm st nb) (hk : Wf P l n hd tl := by
  first | exact .mk (n := 1) (by decide +kernel) (by kernel_rfl) rfl | exact .mk (n := 2) (by decide +kernel) (by kernel_rfl) rfl | exact .mk (n := 3) (by decide +kernel) (by kernel_rfl) rfl | exact .mk (n := 4) (by decide +kernel) (by kernel_rfl) rfl | exact .mk (n := 5) (by decide +kernel) (by kernel_rfl) rfl | exact .mk (n := 6) (by decide +kernel) (by kernel_rfl) rfl | exact .mk (n := 7) (by decide +kernel) (by kernel_rfl) rfl | exact .mk (n := 8) (by decide +kernel) (by kernel_rfl) rfl | exact .mk (n := 9) (by decide +kernel) (by kernel_rfl) rfl | exact .mk (n := 10) (by decide +kernel) (by kernel_rfl) rfl | exact .mk (n := 11) (by decide +kernel) (by kernel_rfl) rfl | exact .mk (n := 12) (by decide +kernel) (by kernel_rfl) rfl | exact .mk (n := 13) (by decide +kernel) (by kernel_rfl) rfl | exact .mk (n := 14) (by decide +kernel) (by kernel_rfl) rfl | exact .mk (n := 15) (by decide +kernel) (by kernel_rfl) rfl | exact .mk (n := 16) (by decide +kernel) (by kernel_rfl) rfl | exact .mk (n := 17) (by decide +kernel) (by kernel_rfl) rfl | exact .mk (n := 18) (by decide +kernel) (by kernel_rfl) rfl | exact .mk (n := 19) (by decide +kernel) (by kernel_rfl) rfl | exact .mk (n := 20) (by decide +kernel) (by kernel_rfl) rfl | exact .mk (n := 21) (by decide +kernel) (by kernel_rfl) rfl | exact .mk (n := 22) (by decide +kernel) (by kernel_rfl) rfl | exact .mk (n := 23) (by decide +kernel) (by kernel_rfl) rfl | exact .mk (n := 24) (by decide +kernel) (by kernel_rfl) rfl | exact .mk (n := 25) (by decide +kernel) (by kernel_rfl) rfl | exact .mk (n := 26) (by decide +kernel) (by kernel_rfl) rfl | exact .mk (n := 27) (by decide +kernel) (by kernel_rfl) rfl | exact .mk (n := 28) (by decide +kernel) (by kernel_rfl) rfl | exact .mk (n := 29) (by decide +kernel) (by kernel_rfl) rfl | exact .mk (n := 30) (by decide +kernel) (by kernel_rfl) rfl | exact .mk (n := 31) (by decide +kernel) (by kernel_rfl) rfl | exact .mk (n := 32) (by decide +kernel) (by kernel_rfl) rfl | exact .mk (n := 33) (by decide +kernel) (by kernel_rfl) rfl | exact .mk (n := 34) (by decide +kernel) (by kernel_rfl) rfl | exact .mk (n := 35) (by decide +kernel) (by kernel_rfl) rfl | exact .mk (n := 36) (by decide +kernel) (by kernel_rfl) rfl | exact .mk (n := 37) (by decide +kernel) (by kernel_rfl) rfl | exact .mk (n := 38) (by decide +kernel) (by kernel_rfl) rfl | exact .mk (n := 39) (by decide +kernel) (by kernel_rfl) rfl | exact .mk (n := 40) (by decide +kernel) (by kernel_rfl) rfl) : VW P cx (.region id l.toArray true) ⟨tm, st, nb⟩ Q := Wt n hk.hB hk.hm hk.hsp h
def Acy (f : FuncId) (o : Oper) : Bool := match o.op with
 | .call c => (match c.callee with
  | .value (.func g) => Nat.beq f g
  | .value _ => true
  | _ => false)
 | _ => false
theorem AJ {P : Program} {cx : Cx} {ops rest : List Oper} {o : Oper} {s : St} {Q : VE → St → Prop} {f : FuncId} {ds : List D} {post : R → Prop} (_ : VP P f ds post) (h : VL P cx ops (o :: rest) s Q) (_ : Acy f o = true := by rfl) : VL P cx ops (o :: rest) s Q := h
theorem Ac3 {P : Program} {cx : Cx} {Q : VE → St → Prop} {l : List Oper} {tm0 : List (Nat × V)} {AO stO : List E} {nb0 : Nat} {ds : List Nat} {hd tl : List Oper} {i : Nat} {acc : List Ac} {tm : List (Nat × V)} {st : List E} {nb : Nat} {o : Oper} {f : FuncId} {dd : List D} {post : R → Prop} (_ : VP P f dd post)
  (h : VD P cx l tm0 AO stO nb0 ds Q (o :: hd) tl i acc tm st nb) (_ : Acy f o = true := by rfl) : VD P cx l tm0 AO stO nb0 ds Q (o :: hd) tl i acc tm st nb := h

end Go.Proofs.YtbgcjnfhadhjeaaGreat