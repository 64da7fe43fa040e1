/- Walks by data and names, part 17: Walks in short: what comes next as one relation, one step as one lemma, calls as one lemma. -/
import Derived.Test.YtbgcjnfhadhjeaaGreatPk16
namespace Go.Proofs.YtbgcjnfhadhjeaaGreat
set_option maxRecDepth 20000
open Go.RowKit
def Jl (Q : VE → St → Prop) : VE → St → Prop
 | .goto _, _ => False
 | e, s => Q e s
theorem S0 {P : Program} {cx : Cx} {c : Code} {s : St} {Q : VE → St → Prop} (h : VW P cx c s (Jl Q)) : VW P cx (.scope c) s Q := fun n g0 w0 g a w hE hS => by
 refine HU (wpIn_mono (h n g0 w0 g a w hE hS) ?_)
 rintro e a' w' ⟨g', s', e', k1, k2, k3, k4⟩
 cases e' with
 | normal => simp only [BJ] at k3; subst k3; exact ⟨g', s', .normal, k1, k2, rfl, k4⟩
 | exit id => simp only [BJ] at k3; subst k3; exact ⟨g', s', .exit id, k1, k2, rfl, k4⟩
 | goto id => exact k4.elim
 | ret => simp only [BJ] at k3; subst k3; exact ⟨g', s', .ret, k1, k2, rfl, k4⟩
 | panic v => obtain ⟨u, rfl, k⟩ := k3; exact ⟨g', s', .panic v, k1, k2, ⟨u, rfl, k⟩, k4⟩
inductive NX : Prop → Prop
 | n1 {P cx ops s} {Q : VE → St → Prop} (h : Q .normal s) : NX (VL P cx ops [] s Q)
 | n2 {P cx id l s Q} (h : VL P cx l l s Q) : NX (VW P cx (.region id l.toArray false) s Q)
 | n3 {P cx c Q s} (h : VW P cx c s Q) : NX (OA P cx c Q .normal s)
 | n4 {P cx s} {Q : VE → St → Prop} (h : Q .normal s) : NX (VW P cx .skip s Q)
 | n5 {P cx id x s Q} (h : VW P cx x s (ES id Q)) : NX (VW P cx (.block id x) s Q)
 | n6 {P cx id s} {Q : VE → St → Prop} (h : Q (.exit id) s) : NX (VW P cx (.exit id) s Q)
 | n7 {i s} {Q : VE → St → Prop} (h : Q .normal s) : NX (ES i Q .normal s)
 | n8 {P cx c i s} {Q : VE → St → Prop} (h : Q (.exit i) s) : NX (OA P cx c Q (.exit i) s)
 | n9 {P cx c s} {Q : VE → St → Prop} (h : Q .ret s) : NX (OA P cx c Q .ret s)
 | n10 {P cx c s v} {Q : VE → St → Prop} (h : Q (.panic v) s) : NX (OA P cx c Q (.panic v) s)
 | n11 {i s} {Q : VE → St → Prop} (h : Q .ret s) : NX (ES i Q .ret s)
 | n12 {i s v} {Q : VE → St → Prop} (h : Q (.panic v) s) : NX (ES i Q (.panic v) s)
 | n13 {s} {K : St → Prop} {Q : VE → St → Prop} (h : K s) : NX (MG K Q .normal s)
 | n14 {s i} {K : St → Prop} {Q : VE → St → Prop} (h : Q (.exit i) s) : NX (MG K Q (.exit i) s)
 | n15 {s} {K : St → Prop} {Q : VE → St → Prop} (h : Q .ret s) : NX (MG K Q .ret s)
 | n16 {s v} {K : St → Prop} {Q : VE → St → Prop} (h : Q (.panic v) s) : NX (MG K Q (.panic v) s)
 | n17 {α : Type} {cx s i} {I : α → St} {T : α → Prop} {μ : α → Nat} {x : α} {Q : VE → St → Prop} (h : Q (.exit i) s) : NX (MW cx I T μ x Q (.exit i) s)
 | n18 {α : Type} {cx s} {I : α → St} {T : α → Prop} {μ : α → Nat} {x : α} {Q : VE → St → Prop} (h : Q .ret s) : NX (MW cx I T μ x Q .ret s)
 | n19 {α : Type} {cx s v} {I : α → St} {T : α → Prop} {μ : α → Nat} {x : α} {Q : VE → St → Prop} (h : Q (.panic v) s) : NX (MW cx I T μ x Q (.panic v) s)
 | n20 {α : Type} {cx s i} {I : α → St} {T : α → Prop} {Q : VE → St → Prop} (h : Q (.exit i) s) : NX (V5 cx I T Q (.exit i) s)
 | n21 {α : Type} {cx s} {I : α → St} {T : α → Prop} {Q : VE → St → Prop} (h : Q .ret s) : NX (V5 cx I T Q .ret s)
 | n22 {α : Type} {cx s v} {I : α → St} {T : α → Prop} {Q : VE → St → Prop} (h : Q (.panic v) s) : NX (V5 cx I T Q (.panic v) s)
 | n23 {P cx c Q m s} (h : VW P cx c s (MG (RV P cx c Q m) Q)) : NX (RV P cx c Q (m + 1) s)
 | n24 {P cx s} {Q : VE → St → Prop} (h : Q .ret s) : NX (VW P cx .ret s Q)
 | n25 {P tm st nb} {post : R → Prop} (k : post (.ret (.tup []))) : NX (Ff P [] post .normal ⟨tm, st, nb⟩)
 | n26 {P tm st nb} {post : R → Prop} (k : post (.ret (.tup []))) : NX (Ff P [] post .ret ⟨tm, st, nb⟩)
 | n27 {P cx ops rest t tm Q v st nb} (h : VL P cx ops rest ⟨(t, v) :: tm, st, nb⟩ Q) : NX (LN P cx ops rest t tm Q (.ret v) st nb)
 | n28 {P cx ops rest t tm v st nb} {Q : VE → St → Prop} (h : Q (.panic v) ⟨tm, st, nb⟩) : NX (LN P cx ops rest t tm Q (.panic v) st nb)
 | n29 {P tm st nb} {K : RC → List E → Nat → Prop} (k : K (.ret (.tup [])) st nb) : NX (G8 P [] K .normal ⟨tm, st, nb⟩)
 | n30 {P rs tm st nb v} {K : RC → List E → Nat → Prop} (k : K (.panic v) st nb) : NX (G8 P rs K (.panic v) ⟨tm, st, nb⟩)
 | n31 {P cx ops rest s} {K : St → Prop} (h : VL P cx ops rest s (RN K)) : NX (AbA P cx ops rest K .normal s)
 | n32 {s} {K : St → Prop} (h : K s) : NX (RN K .normal s)
 | n33 {P B rs fd ca Q tm st nb} (h : VDf P fd B ca none st nb (Nu P rs tm Q)) : NX (Ui P B rs fd ca Q .ret ⟨tm, st, nb⟩)
 | n34 {P B rs fd ca Q tm st nb} (h : VDf P fd B ca none st nb (Nu P rs tm Q)) : NX (Ui P B rs fd ca Q .normal ⟨tm, st, nb⟩)
 | n35 {P B rs fd ca Q tm st nb v} (h : VDf P fd B ca (some v) st nb (Nu P rs tm Q)) : NX (Ui P B rs fd ca Q (.panic v) ⟨tm, st, nb⟩)
 | n36 {tm st nb} {K : List E → Nat → Prop} (h : K st nb) : NX (Aap K .normal ⟨tm, st, nb⟩)
 | n37 {tm st nb} {K : List E → Nat → Prop} (h : K st nb) : NX (Aap K .ret ⟨tm, st, nb⟩)
 | n38 {P tm st nb} {K : RC → List E → Nat → Prop} (k : K (.ret (.tup [])) st nb) : NX (G8 P [] K .ret ⟨tm, st, nb⟩)
 | n39 {P cx l s} {Q : VE → St → Prop} (h : Q .normal s) : NX (VW P cx (.label l) s Q)
 | n40 {P cx c s} {Q : VE → St → Prop} (h : VW P cx c s (Jl Q)) : NX (VW P cx (.scope c) s Q)
 | n41 {s} {Q : VE → St → Prop} (h : Q .normal s) : NX (Jl Q .normal s)
 | n42 {s} {Q : VE → St → Prop} (h : Q .ret s) : NX (Jl Q .ret s)
 | n43 {s i} {Q : VE → St → Prop} (h : Q (.exit i) s) : NX (Jl Q (.exit i) s)
 | n44 {s v} {Q : VE → St → Prop} (h : Q (.panic v) s) : NX (Jl Q (.panic v) s)
theorem NX.go {g : Prop} (h : NX g) : g := by
 cases h with
 | n1 h => exact PL h
 | n2 h => exact Sd h
 | n4 h => exact Wy h
 | n5 h => exact S7 h
 | n6 h => exact WA h
 | n24 h => exact Y1 h
 | n25 k => exact AcS k
 | n26 k => exact Abn k
 | n29 k => exact Ac2 k
 | n32 h => exact XN h
 | n38 k => exact ⟨[], .nil, k⟩
 | n39 h => exact S2 h
 | n40 h => exact S0 h
 | _ h => exact h
def JP (P : Program) (cx : Cx) (ops : List Oper) (o : Oper) (s s' : St) : Prop := ∀ rest Q, VL P cx ops rest s' Q → VL P cx ops (o :: rest) s Q
section
variable {P : Program} {cx : Cx} {tm : List (Nat × V)} {st : List E} {nb : Nat} {s s' : St} {Q : VE → St → Prop} {ops rest : List Oper} {o : Oper} {d : Tmp} {op : Op} {ty : TypeId} {pos : String} {af : Array Edge} {gd : Option (Nat × Bool)}
theorem IB {v : V} (hw : Wd ops tm gd := by first | exact trivial | exact A9 rfl rfl (by with_reducible rfl))
  (h : Bn P cx op ty ⟨tm, st, nb⟩ v := by first | ((with_reducible apply Qd); rfl) | ((with_reducible apply Li); rfl) | ((with_reducible apply U0); first | ((with_reducible apply NF) <;> rfl) | ((with_reducible apply NE) <;> rfl) | ((with_reducible apply Lf) <;> (first | rfl | assumption)) | ((with_reducible apply Kv) <;> rfl) | ((with_reducible apply ND); rfl; rfl; (first | rfl | assumption); rfl) | ((with_reducible apply Le); rfl; rfl; (first | rfl | assumption); exact Nat.le_of_ble_eq_true rfl)) | ((with_reducible apply U2); first | ((with_reducible apply Qh); rfl) | ((with_reducible apply Qi); rfl) | ((with_reducible apply Qg); rfl)) | ((with_reducible apply Qq); first | ((with_reducible apply ZI) <;> rfl) | ((with_reducible apply ZC) <;> rfl) | ((with_reducible apply ZD) <;> rfl) | ((with_reducible apply ZE) <;> rfl) | ((with_reducible apply ZF) <;> rfl) | ((with_reducible apply ZG) <;> rfl) | ((with_reducible apply UT); rfl; rfl; (simp only [Im]; omega)) | ((with_reducible apply UA); rfl; rfl; (simp only [Im]; omega)) | ((with_reducible apply UF); rfl; rfl; (simp only [Im]; omega)) | ((with_reducible apply Qb) <;> rfl) | ((with_reducible apply Qc) <;> rfl) | ((with_reducible apply Qm) <;> rfl) | ((with_reducible apply Qn) <;> rfl) | ((with_reducible apply UQ) <;> rfl) | ((with_reducible apply UE) <;> rfl) | ((with_reducible apply Qk); rfl; rfl; decide) | ((with_reducible apply Ql); rfl; rfl; decide) | ((with_reducible apply OV) <;> rfl) | ((with_reducible apply UD) <;> rfl) | ((with_reducible apply NL); rfl; rfl; exact fun _ => rfl) | ((with_reducible apply UP); rfl; rfl; rfl; rfl; rfl; rfl; assumption) | ((with_reducible apply P9); rfl; rfl; rfl; rfl; rfl; rfl; assumption) | ((with_reducible apply Qa); rfl; rfl; rfl; rfl; rfl; rfl; assumption) | ((with_reducible apply OU); rfl; rfl; rfl; rfl; rfl; rfl; assumption)) | ((with_reducible apply UY); first | ((with_reducible apply P3); exact FB rfl (by with_reducible rfl)) | ((with_reducible apply P4); exact FB rfl (by with_reducible rfl)) | ((with_reducible apply UC); rfl) | ((with_reducible apply P2); rfl; exact fun _ => rfl)) | ((with_reducible apply NB); exact FB rfl (by with_reducible rfl); rfl) | ((with_reducible apply NC); exact FB rfl (by with_reducible rfl); rfl) | ((with_reducible apply Qp); first | ((with_reducible apply P6); rfl) | ((with_reducible apply P8); rfl) | ((with_reducible apply P5); rfl) | ((with_reducible apply P7); rfl)) | ((with_reducible apply NN); first | ((with_reducible apply UL) <;> rfl) | ((with_reducible apply UI) <;> rfl) | ((with_reducible apply UJ) <;> rfl)) | ((with_reducible apply UO) <;> rfl) | ((with_reducible apply Qj) <;> rfl) | ((with_reducible apply UH) <;> rfl) | ((with_reducible apply UG); rfl) | ((with_reducible apply U1); first | ((with_reducible apply Qf); rfl; rfl; omega; omega) | ((with_reducible apply UN); rfl; rfl; rfl; omega; (first | rfl | assumption); (first | rfl | assumption)) | ((with_reducible apply Qe); rfl; rfl; rfl; omega; omega)) | ((with_reducible apply NK) <;> rfl) | ((with_reducible apply Lh) <;> rfl) | ((with_reducible apply UZ); first | ((with_reducible apply Lb) <;> rfl) | ((with_reducible apply Lc) <;> rfl) | ((with_reducible apply NA); rfl; rfl; rfl; rfl; (first | exact Int.le_refl _ | omega | (simp only [Option.getD]; omega)); (simp only [Option.getD]; omega); (first | exact Int.le_refl _ | (simp only [Option.getD]; omega)); (first | assumption | (simp; fail_if_success (focus skip)))) | ((with_reducible apply Jr); rfl; rfl; rfl; rfl; (first | exact Int.le_refl _ | omega); (first | exact Int.le_refl _ | omega)) | ((with_reducible apply Ld); rfl; rfl; rfl; rfl; rfl; (first | exact Int.le_refl _ | (simp only [Option.getD]; omega)); (simp only [Option.getD]; omega); (first | exact Int.le_refl _ | omega); (first | assumption | (simp; fail_if_success (focus skip))))) | ((with_reducible apply NG); rfl; rfl; rfl; rfl; omega; omega; (first | rfl | assumption)) | ((with_reducible apply NH) <;> rfl) | ((with_reducible apply Lg) <;> rfl) | ((with_reducible apply ZA) <;> rfl) | ((with_reducible apply Uz) <;> rfl) | ((with_reducible apply Qo); rfl; (first | exact .sl | exact .nil)) | ((with_reducible apply NJ); rfl; (simp only [Im]; omega)) | ((with_reducible apply NI); rfl))
  (hd : Nat.blt d cx.N = true := by rfl) (hn : BG op = true := by rfl) : JP P cx ops ⟨some d, op, ty, pos, af, gd⟩ ⟨tm, st, nb⟩ ⟨(d, v) :: tm, st, nb⟩ := fun _ _ k => Aa5 h hw hd hn k
theorem TO {v : V} {e : E} (hw : Wd ops tm gd := by first | exact trivial | exact A9 rfl rfl (by with_reducible rfl))
  (h : QM P cx op ty tm st v nb e := by first | (with_reducible apply Ku) | ((with_reducible apply Rx) <;> rfl) | ((with_reducible apply Xp) <;> rfl) | ((with_reducible apply Nx); rfl; rfl; omega; omega; decide; rfl) | ((with_reducible apply Ny); rfl; rfl; (first | exact .row rfl | exact .nil | exact .sl (by first | assumption | (simp; fail_if_success (focus skip)))); (first | omega | (focus (simp; fail_if_success (focus skip))) | (simp; omega)); decide) | ((with_reducible apply Nz); rfl; (first | exact .rv rfl (Nat.le_refl _) | exact .rv rfl (by omega) | exact .sl (by first | assumption | (simp; fail_if_success (focus skip)))); rfl; (first | exact .row rfl | exact .sl (by first | assumption | (simp; fail_if_success (focus skip)))); (first | omega | simp); (first | omega | (focus (simp; fail_if_success (focus skip))) | (simp; omega)); decide))
  (hd : Nat.blt d cx.N = true := by rfl) (hn : BG op = true := by rfl) : JP P cx ops ⟨some d, op, ty, pos, af, gd⟩ ⟨tm, st, nb⟩ ⟨(d, v) :: tm, e :: st, nb + 1⟩ := fun _ _ k => WH h.v hw hd hn k
theorem Zo {v : V} {st' : List E} {nb' : Nat} (hw : Wd ops tm gd := by first | exact trivial | exact A9 rfl rfl (by with_reducible rfl))
  (h : YX P cx op ty ⟨tm, st, nb⟩ v st' nb' := by
   first
    | ((with_reducible apply WS); rfl; rfl; rfl; (first | exact .row rfl | exact .nil | exact .sl (by first | assumption | (simp; fail_if_success (focus skip)))); (first | rfl | (simp; fail_if_success (focus skip))))
    | ((with_reducible apply Zi); rfl; rfl; rfl; (first | exact .row rfl | exact .nil | exact .sl (by first | assumption | (simp; fail_if_success (focus skip)))); (first | omega | (focus (simp; fail_if_success (focus skip))) | (simp; omega)); decide))
  (hd : Nat.blt d cx.N = true := by rfl) (hn : BG op = true := by rfl) : JP P cx ops ⟨some d, op, ty, pos, af, gd⟩ ⟨tm, st, nb⟩ ⟨(d, v) :: tm, st', nb'⟩ := fun _ _ k => WH h hw hd hn k
theorem Abk {st' : List E} {nb' : Nat} (hw : Wd ops tm gd := by first | exact trivial | exact A9 rfl rfl (by with_reducible rfl))
  (h : YY P cx op ty ⟨tm, st, nb⟩ st' nb' := by
   first
    | ((with_reducible apply FT) <;> rfl)
    | ((with_reducible apply MD); rfl; rfl; (first | rfl | assumption); rfl; rfl; rfl; rfl; rfl))
  (hn : BG op = true := by rfl) : JP P cx ops ⟨none, op, ty, pos, af, gd⟩ ⟨tm, st, nb⟩ ⟨tm, st', nb'⟩ := fun _ _ k => Za h hw hn k
theorem Rb {j : Nat} {b : Bool} {t : Nat} {v : V} (h1 : (ops[j]?).bind (·.dst) = some t := by rfl) (h2 : AE t tm = some v := by rfl) (hc : Ht b v := by first | ((with_reducible apply Ht.tf); with_reducible rfl) | ((with_reducible apply Ht.ft); with_reducible rfl)) (hd : Nat.blt d cx.N = true := by rfl) :
  JP P cx ops ⟨some d, op, ty, pos, af, some (j, b)⟩ ⟨tm, st, nb⟩ ⟨(d, .d (.lit undef)) :: tm, st, nb⟩ := fun _ _ k => let ⟨_, e, hc⟩ := hc.of; WI h1 (h2.trans (congrArg some e)) hc hd k
theorem OC {j : Nat} {b : Bool} {t : Nat} (h1 : (ops[j]?).bind (·.dst) = some t := by rfl) (h2 : AE t tm = some (.d (.lit undef)) := by rfl) (hd : Nat.blt d cx.N = true := by rfl) :
  JP P cx ops ⟨some d, op, ty, pos, af, some (j, b)⟩ ⟨tm, st, nb⟩ ⟨(d, .d (.lit undef)) :: tm, st, nb⟩ := fun _ _ k => Tk h1 h2 hd k
def opK : Op → Nat
 | .alloc _ => 1
 | .box _ _ => 1
 | .buildSlice _ _ _ => 1
 | .makeSlice _ _ _ => 1
 | .store _ _ _ => 3
 | .panic _ => 5
 | .defer _ => 6
 | .call c => (match c.callee with
  | .value _ => 4
  | .invoke _ _ => 4
  | .builtin .append => 2
  | .builtin .copy => 2
  | .builtin .recover => 6
  | .builtin _ => 0)
 | _ => 0
theorem Se {P : Program} {cx : Cx} {ops rest : List Oper} {o : Oper} {s : St} {Q : VE → St → Prop} (n : Nat) (h : VL P cx ops (o :: rest) s Q) (_ : Nat.beq (opK o.op) n = true := by rfl) : VL P cx ops (o :: rest) s Q := h
theorem Tu {P : Program} {cx : Cx} {Q : VE → St → Prop} {l : List Oper} {tm0 : List (Nat × V)} {AO stO : List E} {nb0 : Nat} {ds : List Nat} {hd tl : List Oper} {i : Nat} {acc : List Ac} {tm : List (Nat × V)} {st : List E} {nb : Nat} {o : Oper} (n : Nat)
  (h : VD P cx l tm0 AO stO nb0 ds Q (o :: hd) tl i acc tm st nb) (_ : Nat.beq (opK o.op) n = true := by rfl) : VD P cx l tm0 AO stO nb0 ds Q (o :: hd) tl i acc tm st nb := h
theorem Aa6 {P : Program} {cx : Cx} {ops rest : List Oper} {d : Option Tmp} {op : Op} {ty : TypeId} {pos : String} {af : Array Edge} {gd : Nat × Bool} {s : St} {Q : VE → St → Prop} (h : VL P cx ops (⟨d, op, ty, pos, af, some gd⟩ :: rest) s Q) : VL P cx ops (⟨d, op, ty, pos, af, some gd⟩ :: rest) s Q := h
theorem Abb {P : Program} {cx : Cx} {Q : VE → St → Prop} {l : List Oper} {tm0 : List (Nat × V)} {AO stO : List E} {nb0 : Nat} {ds : List Nat} {hd tl : List Oper} {i : Nat} {acc : List Ac} {tm : List (Nat × V)} {st : List E} {nb : Nat} {d : Option Tmp} {op : Op} {ty : TypeId} {pos : String} {af : Array Edge} {gd : Nat × Bool}
  (h : VD P cx l tm0 AO stO nb0 ds Q (⟨d, op, ty, pos, af, some gd⟩ :: hd) tl i acc tm st nb) : VD P cx l tm0 AO stO nb0 ds Q (⟨d, op, ty, pos, af, some gd⟩ :: hd) tl i acc tm st nb := h
theorem HV (k : VL P cx ops rest s' Q) (h : JP P cx ops o s s' := by first | exact IB | exact Abk | exact TO | exact Zo | exact Rb | exact OC) : VL P cx ops (o :: rest) s Q := h _ _ k
theorem AaZ (k : VL P cx ops rest s' Q) (h : JP P cx ops o s s' := by first | exact Rb | exact OC) : VL P cx ops (o :: rest) s Q := h _ _ k
theorem AaY (k : VL P cx ops rest s' Q) (h : JP P cx ops o s s' := by exact IB) : VL P cx ops (o :: rest) s Q := h _ _ k
theorem AaX (k : VL P cx ops rest s' Q) (h : JP P cx ops o s s' := by exact TO) : VL P cx ops (o :: rest) s Q := h _ _ k
theorem AaV (k : VL P cx ops rest s' Q) (h : JP P cx ops o s s' := by first | exact TO | exact Zo) : VL P cx ops (o :: rest) s Q := h _ _ k
theorem AaW (k : VL P cx ops rest s' Q) (h : JP P cx ops o s s' := by exact Abk) : VL P cx ops (o :: rest) s Q := h _ _ k
def PE (P : Program) (cx : Cx) (ops : List Oper) (o : Oper) (s s' : St) (f : FuncId) (ds : List D) (post : R → Prop) : Prop := VP P f ds post → JP P cx ops o s s'
section
variable {t : Tmp} {x : Operand} {f : FuncId} {xs : Array Operand} {tys : Array TypeId} {v : V} {vs az : List V} {ds' ds : List D} {dd : D}
theorem T2 (hx : Af ⟨tm, st, nb⟩ x = some v := by rfl) (hv : AY ⟨tm, st, nb⟩ xs.toList = some vs := by rfl) (hf : Hi v vs = some (f, az) := by rfl) (ha : AD st az ds' := by first | exact Jc rfl | ((repeat' (first | exact Hq | exact Hr | ((apply FH); rfl))); fail_if_success (focus skip))) (hd : Er ds' ds := by ((repeat' (first | exact Dy | with_reducible apply CH | with_reducible exact EO _ | with_reducible exact GK _ | infer_instance | with_reducible apply EQ | with_reducible apply EP | with_reducible apply GJ | with_reducible apply GL | with_reducible apply BK | assumption | apply BK)); fail_if_success (focus skip))) (hw : Wd ops tm gd := by first | exact trivial | exact A9 rfl rfl (by with_reducible rfl)) (ht : Nat.blt t cx.N = true := by rfl) :
  PE P cx ops ⟨some t, .call { callee := .value x, args := xs, argTypes := tys }, ty, pos, af, gd⟩ ⟨tm, st, nb⟩ ⟨(t, .d dd) :: tm, st, nb⟩ f ds (· = .ret dd) := fun hc _ _ k => Tl hc hx hv hf ha hd hw ht k
theorem T3 {e : TypeId} {sz : Nat} {l : List (List D)} (hx : Af ⟨tm, st, nb⟩ x = some v := by rfl) (hv : AY ⟨tm, st, nb⟩ xs.toList = some vs := by rfl) (hf : Hi v vs = some (f, az) := by rfl) (ha : AD st az ds' := by first | exact Jc rfl | ((repeat' (first | exact Hq | exact Hr | ((apply FH); rfl))); fail_if_success (focus skip))) (hd : Er ds' ds := by ((repeat' (first | exact Dy | with_reducible apply CH | with_reducible exact EO _ | with_reducible exact GK _ | infer_instance | with_reducible apply EQ | with_reducible apply EP | with_reducible apply GJ | with_reducible apply GL | with_reducible apply BK | assumption | apply BK)); fail_if_success (focus skip))) (hw : Wd ops tm gd := by first | exact trivial | exact A9 rfl rfl (by with_reducible rfl)) (ht : Nat.blt t cx.N = true := by rfl) :
  PE P cx ops ⟨some t, .call { callee := .value x, args := xs, argTypes := tys }, ty, pos, af, gd⟩ ⟨tm, st, nb⟩ ⟨(t, .row nb 0) :: tm, .r true true nb 0 e sz l :: st, nb + 1⟩ f ds (· = .own e sz l) := fun hc _ _ k => Zc hc hx hv hf ha hd hw ht k
theorem Rk (hx : Af ⟨tm, st, nb⟩ x = some v := by rfl) (hv : AY ⟨tm, st, nb⟩ xs.toList = some vs := by rfl) (hf : Hi v vs = some (f, az) := by rfl) (ha : Dd st 64 az = some ds' := by rfl) (hd : Er ds' ds := by ((repeat' (first | exact Dy | with_reducible apply CH | with_reducible exact EO _ | with_reducible exact GK _ | infer_instance | with_reducible apply EQ | with_reducible apply EP | with_reducible apply GJ | with_reducible apply GL | with_reducible apply BK | assumption | apply BK)); fail_if_success (focus skip))) (hfl : GO dd := by infer_instance) (hw : Wd ops tm gd := by first | exact trivial | exact A9 rfl rfl (by with_reducible rfl)) (ht : Nat.blt t cx.N = true := by rfl) :
  PE P cx ops ⟨some t, .call { callee := .value x, args := xs, argTypes := tys }, ty, pos, af, gd⟩ ⟨tm, st, nb⟩ ⟨(t, .d dd) :: tm, st, nb⟩ f ds (· = .ret dd) := fun hc _ _ k => Nj hc hx hv hf ha hd hfl hw ht (fun _ e => by cases e; exact k) (fun _ _ _ e => by cases e) (fun _ e => by cases e)
theorem OK {e : TypeId} {sz : Nat} {l : List (List D)} (hx : Af ⟨tm, st, nb⟩ x = some v := by rfl) (hv : AY ⟨tm, st, nb⟩ xs.toList = some vs := by rfl) (hf : Hi v vs = some (f, az) := by rfl) (ha : Dd st 64 az = some ds' := by rfl) (hd : Er ds' ds := by ((repeat' (first | exact Dy | with_reducible apply CH | with_reducible exact EO _ | with_reducible exact GK _ | infer_instance | with_reducible apply EQ | with_reducible apply EP | with_reducible apply GJ | with_reducible apply GL | with_reducible apply BK | assumption | apply BK)); fail_if_success (focus skip))) (hfl : FI l := by infer_instance) (hw : Wd ops tm gd := by first | exact trivial | exact A9 rfl rfl (by with_reducible rfl)) (ht : Nat.blt t cx.N = true := by rfl) :
  PE P cx ops ⟨some t, .call { callee := .value x, args := xs, argTypes := tys }, ty, pos, af, gd⟩ ⟨tm, st, nb⟩ ⟨(t, .row nb 0) :: tm, .r true true nb 0 e sz l :: st, nb + 1⟩ f ds (· = .own e sz l) := fun hc _ _ k => Nj hc hx hv hf ha hd hfl hw ht (fun _ e => by cases e) (fun _ _ _ e => by cases e; exact k) (fun _ e => by cases e)
end
theorem Ag {f : FuncId} {ds : List D} {post : R → Prop} (hc : VP P f ds post) (k : VL P cx ops rest s' Q) (h : PE P cx ops o s s' f ds post := by first | exact T2 | exact T3 | exact Rk | exact OK) : VL P cx ops (o :: rest) s Q := h hc _ _ k
end
structure Wn (P : Program) (l : List Oper) (n : Nat) (hd tl : List Oper) : Prop where
 hB : R5 l n = true
 hm : P.follows .mixedOrders = true
 hsp : G0 n l = some (hd, tl)
theorem Ok {P : Program} {cx : Cx} {l : List Oper} {Q : VE → St → Prop} {id n nb : Nat} {tm : List (Nat × V)} {st : List E} {hd tl : List Oper} (h : VD P cx l tm st st nb (X0 hd) Q hd tl 0 [] tm st nb) (hk : Wn P l n hd tl := by
  first | exact .mk (n := 1) (by decide +kernel) (by kernel_rfl) rfl | exact .mk (n := 2) (by decide +kernel) (by kernel_rfl) rfl | exact .mk (n := 3) (by decide +kernel) (by kernel_rfl) rfl | exact .mk (n := 4) (by decide +kernel) (by kernel_rfl) rfl | exact .mk (n := 5) (by decide +kernel) (by kernel_rfl) rfl | exact .mk (n := 6) (by decide +kernel) (by kernel_rfl) rfl | exact .mk (n := 7) (by decide +kernel) (by kernel_rfl) rfl | exact .mk (n := 8) (by decide +kernel) (by kernel_rfl) rfl | exact .mk (n := 9) (by decide +kernel) (by kernel_rfl) rfl | exact .mk (n := 10) (by decide +kernel) (by kernel_rfl) rfl | exact .mk (n := 11) (by decide +kernel) (by kernel_rfl) rfl | exact .mk (n := 12) (by decide +kernel) (by kernel_rfl) rfl | exact .mk (n := 13) (by decide +kernel) (by kernel_rfl) rfl | exact .mk (n := 14) (by decide +kernel) (by kernel_rfl) rfl | exact .mk (n := 15) (by decide +kernel) (by kernel_rfl) rfl | exact .mk (n := 16) (by decide +kernel) (by kernel_rfl) rfl | exact .mk (n := 17) (by decide +kernel) (by kernel_rfl) rfl | exact .mk (n := 18) (by decide +kernel) (by kernel_rfl) rfl | exact .mk (n := 19) (by decide +kernel) (by kernel_rfl) rfl | exact .mk (n := 20) (by decide +kernel) (by kernel_rfl) rfl | exact .mk (n := 21) (by decide +kernel) (by kernel_rfl) rfl | exact .mk (n := 22) (by decide +kernel) (by kernel_rfl) rfl | exact .mk (n := 23) (by decide +kernel) (by kernel_rfl) rfl | exact .mk (n := 24) (by decide +kernel) (by kernel_rfl) rfl | exact .mk (n := 25) (by decide +kernel) (by kernel_rfl) rfl | exact .mk (n := 26) (by decide +kernel) (by kernel_rfl) rfl | exact .mk (n := 27) (by decide +kernel) (by kernel_rfl) rfl | exact .mk (n := 28) (by decide +kernel) (by kernel_rfl) rfl | exact .mk (n := 29) (by decide +kernel) (by kernel_rfl) rfl | exact .mk (n := 30) (by decide +kernel) (by kernel_rfl) rfl | exact .mk (n := 31) (by decide +kernel) (by kernel_rfl) rfl | exact .mk (n := 32) (by decide +kernel) (by kernel_rfl) rfl | exact .mk (n := 33) (by decide +kernel) (by kernel_rfl) rfl | exact .mk (n := 34) (by decide +kernel) (by kernel_rfl) rfl | exact .mk (n := 35) (by decide +kernel) (by kernel_rfl) rfl | exact .mk (n := 36) (by decide +kernel) (by kernel_rfl) rfl | exact .mk (n := 37) (by decide +kernel) (by kernel_rfl) rfl | exact .mk (n := 38) (by decide +kernel) (by kernel_rfl) rfl | exact .mk (n := 39) (by decide +kernel) (by kernel_rfl) rfl | exact .mk (n := 40) (by decide +kernel) (by kernel_rfl) rfl) : VW P cx (.region id l.toArray true) ⟨tm, st, nb⟩ Q := WC n hk.hB hk.hm hk.hsp h
def Aci (f : FuncId) (o : Oper) : Bool := match o.op with
 | .call c => (match c.callee with
  | .value (.func g) => Nat.beq f g
  | .value _ => true
  | _ => false)
 | _ => false
theorem AK {P : Program} {cx : Cx} {ops rest : List Oper} {o : Oper} {s : St} {Q : VE → St → Prop} {f : FuncId} {ds : List D} {post : R → Prop} (_ : VP P f ds post) (h : VL P cx ops (o :: rest) s Q) (_ : Aci f o = true := by rfl) : VL P cx ops (o :: rest) s Q := h
theorem AcN {P : Program} {cx : Cx} {Q : VE → St → Prop} {l : List Oper} {tm0 : List (Nat × V)} {AO stO : List E} {nb0 : Nat} {ds : List Nat} {hd tl : List Oper} {i : Nat} {acc : List Ac} {tm : List (Nat × V)} {st : List E} {nb : Nat} {o : Oper} {f : FuncId} {dd : List D} {post : R → Prop} (_ : VP P f dd post)
  (h : VD P cx l tm0 AO stO nb0 ds Q (o :: hd) tl i acc tm st nb) (_ : Aci f o = true := by rfl) : VD P cx l tm0 AO stO nb0 ds Q (o :: hd) tl i acc tm st nb := h

end Go.Proofs.YtbgcjnfhadhjeaaGreat