/- Walks by data and names, part 17: Walks in short: what comes next as one relation, one step as one lemma, calls as one lemma. -/
import Derived.Test.YtnjaohdadaifhaaGreatPk16
namespace Go.Proofs.YtnjaohdadaifhaaGreat
set_option maxRecDepth 20000
open Go.RowKit
def scopeV (Q : VE → St → Prop) : VE → St → Prop
  | .goto _, _ => False
  | e, s => Q e s
theorem vw_scope {P : Program} {cx : Cx} {c : Code} {s : St} {Q : VE → St → Prop} (h : VW P cx c s (scopeV Q)) : VW P cx (.scope c) s Q := fun n g0 w0 g a w hE hS => by
  refine wpIn_scope_straight (wpIn_mono (h n g0 w0 g a w hE hS) ?_)
  rintro e a' w' ⟨g', s', e', k1, k2, k3, k4⟩
  cases e' with
  | normal => simp only [erel] at k3; subst k3; exact ⟨g', s', .normal, k1, k2, rfl, k4⟩
  | exit id => simp only [erel] at k3; subst k3; exact ⟨g', s', .exit id, k1, k2, rfl, k4⟩
  | goto id => exact k4.elim
  | ret => simp only [erel] at k3; subst k3; exact ⟨g', s', .ret, k1, k2, rfl, k4⟩
  | panic v => obtain ⟨u, rfl, k⟩ := k3; exact ⟨g', s', .panic v, k1, k2, ⟨u, rfl, k⟩, k4⟩
inductive NX : Prop → Prop
  | n1 {P cx ops s} {Q : VE → St → Prop} (h : Q .normal s) : NX (VL P cx ops [] s Q)
  | n2 {P cx id l s Q} (h : VL P cx l l s Q) : NX (VW P cx (.region id l.toArray false) s Q)
  | n3 {P cx c Q s} (h : VW P cx c s Q) : NX (thenV P cx c Q .normal s)
  | n4 {P cx s} {Q : VE → St → Prop} (h : Q .normal s) : NX (VW P cx .skip s Q)
  | n5 {P cx id x s Q} (h : VW P cx x s (blockV id Q)) : NX (VW P cx (.block id x) s Q)
  | n6 {P cx id s} {Q : VE → St → Prop} (h : Q (.exit id) s) : NX (VW P cx (.exit id) s Q)
  | n7 {i s} {Q : VE → St → Prop} (h : Q .normal s) : NX (blockV i Q .normal s)
  | n8 {P cx c i s} {Q : VE → St → Prop} (h : Q (.exit i) s) : NX (thenV P cx c Q (.exit i) s)
  | n9 {P cx c s} {Q : VE → St → Prop} (h : Q .ret s) : NX (thenV P cx c Q .ret s)
  | n10 {P cx c s v} {Q : VE → St → Prop} (h : Q (.panic v) s) : NX (thenV P cx c Q (.panic v) s)
  | n11 {i s} {Q : VE → St → Prop} (h : Q .ret s) : NX (blockV i Q .ret s)
  | n12 {i s v} {Q : VE → St → Prop} (h : Q (.panic v) s) : NX (blockV i Q (.panic v) s)
  | n13 {s} {K : St → Prop} {Q : VE → St → Prop} (h : K s) : NX (thenR K Q .normal s)
  | n14 {s i} {K : St → Prop} {Q : VE → St → Prop} (h : Q (.exit i) s) : NX (thenR K Q (.exit i) s)
  | n15 {s} {K : St → Prop} {Q : VE → St → Prop} (h : Q .ret s) : NX (thenR K Q .ret s)
  | n16 {s v} {K : St → Prop} {Q : VE → St → Prop} (h : Q (.panic v) s) : NX (thenR K Q (.panic v) s)
  | n17 {α : Type} {cx s i} {I : α → St} {T : α → Prop} {μ : α → Nat} {x : α} {Q : VE → St → Prop} (h : Q (.exit i) s) : NX (loopV cx I T μ x Q (.exit i) s)
  | n18 {α : Type} {cx s} {I : α → St} {T : α → Prop} {μ : α → Nat} {x : α} {Q : VE → St → Prop} (h : Q .ret s) : NX (loopV cx I T μ x Q .ret s)
  | n19 {α : Type} {cx s v} {I : α → St} {T : α → Prop} {μ : α → Nat} {x : α} {Q : VE → St → Prop} (h : Q (.panic v) s) : NX (loopV cx I T μ x Q (.panic v) s)
  | n20 {α : Type} {cx s i} {I : α → St} {T : α → Prop} {Q : VE → St → Prop} (h : Q (.exit i) s) : NX (cutV cx I T Q (.exit i) s)
  | n21 {α : Type} {cx s} {I : α → St} {T : α → Prop} {Q : VE → St → Prop} (h : Q .ret s) : NX (cutV cx I T Q .ret s)
  | n22 {α : Type} {cx s v} {I : α → St} {T : α → Prop} {Q : VE → St → Prop} (h : Q (.panic v) s) : NX (cutV cx I T Q (.panic v) s)
  | n23 {P cx c Q m s} (h : VW P cx c s (thenR (RV P cx c Q m) Q)) : NX (RV P cx c Q (m + 1) s)
  | n24 {P cx s} {Q : VE → St → Prop} (h : Q .ret s) : NX (VW P cx .ret s Q)
  | n25 {P tm st nb} {post : R → Prop} (k : post (.ret (.tup []))) : NX (retQ P [] post .normal ⟨tm, st, nb⟩)
  | n26 {P tm st nb} {post : R → Prop} (k : post (.ret (.tup []))) : NX (retQ P [] post .ret ⟨tm, st, nb⟩)
  | n27 {P cx ops rest t tm Q v st nb} (h : VL P cx ops rest ⟨(t, v) :: tm, st, nb⟩ Q) : NX (contV P cx ops rest t tm Q (.ret v) st nb)
  | n28 {P cx ops rest t tm v st nb} {Q : VE → St → Prop} (h : Q (.panic v) ⟨tm, st, nb⟩) : NX (contV P cx ops rest t tm Q (.panic v) st nb)
  | n29 {P tm st nb} {K : RC → List E → Nat → Prop} (k : K (.ret (.tup [])) st nb) : NX (retC P [] K .normal ⟨tm, st, nb⟩)
  | n30 {P rs tm st nb v} {K : RC → List E → Nat → Prop} (k : K (.panic v) st nb) : NX (retC P rs K (.panic v) ⟨tm, st, nb⟩)
  | n31 {P cx ops rest s} {K : St → Prop} (h : VL P cx ops rest s (onlyN K)) : NX (preV P cx ops rest K .normal s)
  | n32 {s} {K : St → Prop} (h : K s) : NX (onlyN K .normal s)
  | n33 {P B rs fd ca Q tm st nb} (h : VDf P fd B ca none st nb (resK P rs tm Q)) : NX (retT P B rs fd ca Q .ret ⟨tm, st, nb⟩)
  | n34 {P B rs fd ca Q tm st nb} (h : VDf P fd B ca none st nb (resK P rs tm Q)) : NX (retT P B rs fd ca Q .normal ⟨tm, st, nb⟩)
  | n35 {P B rs fd ca Q tm st nb v} (h : VDf P fd B ca (some v) st nb (resK P rs tm Q)) : NX (retT P B rs fd ca Q (.panic v) ⟨tm, st, nb⟩)
  | n36 {tm st nb} {K : List E → Nat → Prop} (h : K st nb) : NX (endV K .normal ⟨tm, st, nb⟩)
  | n37 {tm st nb} {K : List E → Nat → Prop} (h : K st nb) : NX (endV K .ret ⟨tm, st, nb⟩)
  | n38 {P tm st nb} {K : RC → List E → Nat → Prop} (k : K (.ret (.tup [])) st nb) : NX (retC P [] K .ret ⟨tm, st, nb⟩)
  | n39 {P cx l s} {Q : VE → St → Prop} (h : Q .normal s) : NX (VW P cx (.label l) s Q)
  | n40 {P cx c s} {Q : VE → St → Prop} (h : VW P cx c s (scopeV Q)) : NX (VW P cx (.scope c) s Q)
  | n41 {s} {Q : VE → St → Prop} (h : Q .normal s) : NX (scopeV Q .normal s)
  | n42 {s} {Q : VE → St → Prop} (h : Q .ret s) : NX (scopeV Q .ret s)
  | n43 {s i} {Q : VE → St → Prop} (h : Q (.exit i) s) : NX (scopeV Q (.exit i) s)
  | n44 {s v} {Q : VE → St → Prop} (h : Q (.panic v) s) : NX (scopeV Q (.panic v) s)
theorem NX.go {g : Prop} (h : NX g) : g := by
  cases h with
  | n1 h => exact vl_nil h
  | n2 h => exact vw_region h
  | n4 h => exact vw_skip h
  | n5 h => exact vw_block h
  | n6 h => exact vw_exit h
  | n24 h => exact vw_ret h
  | n25 k => exact rt_n k
  | n26 k => exact rt_nr k
  | n29 k => exact rc_n k
  | n32 h => exact nx_only h
  | n38 k => exact ⟨[], .nil, k⟩
  | n39 h => exact vw_label h
  | n40 h => exact vw_scope h
  | _ h => exact h
def StpL (P : Program) (cx : Cx) (ops : List Oper) (o : Oper) (s s' : St) : Prop := ∀ rest Q, VL P cx ops rest s' Q → VL P cx ops (o :: rest) s Q
section
variable {P : Program} {cx : Cx} {tm : List (Nat × V)} {st : List E} {nb : Nat} {s s' : St} {Q : VE → St → Prop} {ops rest : List Oper} {o : Oper} {d : Tmp} {op : Op} {ty : TypeId} {pos : String} {af : Array Edge} {gd : Option (Nat × Bool)}
theorem sx_q {v : V} (hw : Wd ops tm gd := by first | exact trivial | exact wd_of rfl rfl (by with_reducible rfl))
    (h : OpQ P cx op ty ⟨tm, st, nb⟩ v := by first | ((with_reducible apply q_move); rfl) | ((with_reducible apply q_assign); rfl) | ((with_reducible apply oq_ld); first | ((with_reducible apply q_load) <;> rfl) | ((with_reducible apply q_loade) <;> rfl) | ((with_reducible apply q_loades) <;> (first | rfl | assumption)) | ((with_reducible apply q_loads) <;> rfl) | ((with_reducible apply q_loadr); rfl; rfl; (first | rfl | assumption); rfl) | ((with_reducible apply q_loadrs); rfl; rfl; (first | rfl | assumption); exact Nat.le_of_ble_eq_true rfl)) | ((with_reducible apply oq_fa); first | ((with_reducible apply q_fldp); rfl) | ((with_reducible apply q_flde); rfl) | ((with_reducible apply q_fldr); rfl)) | ((with_reducible apply oq_bin); first | ((with_reducible apply q_eq) <;> rfl) | ((with_reducible apply q_ne) <;> rfl) | ((with_reducible apply q_lt) <;> rfl) | ((with_reducible apply q_le) <;> rfl) | ((with_reducible apply q_gt) <;> rfl) | ((with_reducible apply q_ge) <;> rfl) | ((with_reducible apply q_add); rfl; rfl; (simp only [inK]; omega)) | ((with_reducible apply q_sub); rfl; rfl; (simp only [inK]; omega)) | ((with_reducible apply q_mul); rfl; rfl; (simp only [inK]; omega)) | ((with_reducible apply q_neit) <;> rfl) | ((with_reducible apply q_neif) <;> rfl) | ((with_reducible apply q_eqit) <;> rfl) | ((with_reducible apply q_eqif) <;> rfl) | ((with_reducible apply q_eqb) <;> rfl) | ((with_reducible apply q_neb) <;> rfl) | ((with_reducible apply q_eqst); rfl; rfl; decide) | ((with_reducible apply q_eqsf); rfl; rfl; decide) | ((with_reducible apply q_eqs) <;> rfl) | ((with_reducible apply q_nes) <;> rfl) | ((with_reducible apply q_bini); rfl; rfl; exact fun _ => rfl) | ((with_reducible apply q_eqr); rfl; rfl; rfl; rfl; rfl; rfl; assumption) | ((with_reducible apply q_nert); rfl; rfl; rfl; rfl; rfl; rfl; assumption) | ((with_reducible apply q_nerf); rfl; rfl; rfl; rfl; rfl; rfl; assumption) | ((with_reducible apply q_ner); rfl; rfl; rfl; rfl; rfl; rfl; assumption)) | ((with_reducible apply oq_un); first | ((with_reducible apply q_nott); exact ev_of rfl (by with_reducible rfl)) | ((with_reducible apply q_notf); exact ev_of rfl (by with_reducible rfl)) | ((with_reducible apply q_not); rfl) | ((with_reducible apply q_un); rfl; exact fun _ => rfl)) | ((with_reducible apply q_pickt); exact ev_of rfl (by with_reducible rfl); rfl) | ((with_reducible apply q_pickf); exact ev_of rfl (by with_reducible rfl); rfl) | ((with_reducible apply oq_nil); first | ((with_reducible apply q_nilp); rfl) | ((with_reducible apply q_nile); rfl) | ((with_reducible apply q_nilr); rfl) | ((with_reducible apply q_nilf); rfl)) | ((with_reducible apply oq_call); first | ((with_reducible apply q_len) <;> rfl) | ((with_reducible apply q_min) <;> rfl) | ((with_reducible apply q_max) <;> rfl)) | ((with_reducible apply q_ext) <;> rfl) | ((with_reducible apply q_extd) <;> rfl) | ((with_reducible apply q_mkf) <;> rfl) | ((with_reducible apply q_mki); rfl) | ((with_reducible apply oq_ia); first | ((with_reducible apply q_idxp); rfl; rfl; omega; omega) | ((with_reducible apply q_idx); rfl; rfl; rfl; omega; (first | rfl | assumption); (first | rfl | assumption)) | ((with_reducible apply q_idxr); rfl; rfl; rfl; omega; omega)) | ((with_reducible apply q_build) <;> rfl) | ((with_reducible apply q_builda) <;> rfl) | ((with_reducible apply oq_sl); first | ((with_reducible apply q_slicep) <;> rfl) | ((with_reducible apply q_slicee) <;> rfl) | ((with_reducible apply q_slice); rfl; rfl; rfl; rfl; (first | exact Int.le_refl _ | omega | (simp only [Option.getD]; omega)); (simp only [Option.getD]; omega); (first | exact Int.le_refl _ | (simp only [Option.getD]; omega)); (first | assumption | (simp; fail_if_success (focus skip)))) | ((with_reducible apply q_slicerv); rfl; rfl; rfl; rfl; (first | exact Int.le_refl _ | omega); (first | exact Int.le_refl _ | omega)) | ((with_reducible apply q_slice3); rfl; rfl; rfl; rfl; rfl; (first | exact Int.le_refl _ | (simp only [Option.getD]; omega)); (simp only [Option.getD]; omega); (first | exact Int.le_refl _ | omega); (first | assumption | (simp; fail_if_success (focus skip))))) | ((with_reducible apply q_index); rfl; rfl; rfl; rfl; omega; omega; (first | rfl | assumption)) | ((with_reducible apply q_field) <;> rfl) | ((with_reducible apply q_fields) <;> rfl) | ((with_reducible apply q_ta) <;> rfl) | ((with_reducible apply q_ta1) <;> rfl) | ((with_reducible apply q_bstr); rfl; (first | exact .sl | exact .nil)) | ((with_reducible apply q_convi); rfl; (simp only [inK]; omega)) | ((with_reducible apply q_convw); rfl))
    (hd : Nat.blt d cx.N = true := by rfl) (hn : noDefer op = true := by rfl) : StpL P cx ops ⟨some d, op, ty, pos, af, gd⟩ ⟨tm, st, nb⟩ ⟨(d, v) :: tm, st, nb⟩ := fun _ _ k => vl_q h hw hd hn k
theorem sx_r {v : V} {e : E} (hw : Wd ops tm gd := by first | exact trivial | exact wd_of rfl rfl (by with_reducible rfl))
    (h : OpR P cx op ty tm st v nb e := by first | (with_reducible apply r_alloc) | ((with_reducible apply r_box) <;> rfl) | ((with_reducible apply r_bs) <;> rfl) | ((with_reducible apply r_make); rfl; rfl; omega; omega; decide; rfl) | ((with_reducible apply r_appn); rfl; rfl; (first | exact .row rfl | exact .nil | exact .sl (by first | assumption | (simp; fail_if_success (focus skip)))); (first | omega | (focus (simp; fail_if_success (focus skip))) | (simp; omega)); decide) | ((with_reducible apply r_appc); rfl; (first | exact .rv rfl (Nat.le_refl _) | exact .rv rfl (by omega) | exact .sl (by first | assumption | (simp; fail_if_success (focus skip)))); rfl; (first | exact .row rfl | exact .sl (by first | assumption | (simp; fail_if_success (focus skip)))); (first | omega | simp); (first | omega | (focus (simp; fail_if_success (focus skip))) | (simp; omega)); decide))
    (hd : Nat.blt d cx.N = true := by rfl) (hn : noDefer op = true := by rfl) : StpL P cx ops ⟨some d, op, ty, pos, af, gd⟩ ⟨tm, st, nb⟩ ⟨(d, v) :: tm, e :: st, nb + 1⟩ := fun _ _ k => vl_v h.v hw hd hn k
theorem sx_v {v : V} {st' : List E} {nb' : Nat} (hw : Wd ops tm gd := by first | exact trivial | exact wd_of rfl rfl (by with_reducible rfl))
    (h : OpV P cx op ty ⟨tm, st, nb⟩ v st' nb' := by
      first
        | ((with_reducible apply v_copy'); rfl; rfl; rfl; (first | exact .row rfl | exact .nil | exact .sl (by first | assumption | (simp; fail_if_success (focus skip)))); (first | rfl | (simp; fail_if_success (focus skip))))
        | ((with_reducible apply v_app'); rfl; rfl; rfl; (first | exact .row rfl | exact .nil | exact .sl (by first | assumption | (simp; fail_if_success (focus skip)))); (first | omega | (focus (simp; fail_if_success (focus skip))) | (simp; omega)); decide))
    (hd : Nat.blt d cx.N = true := by rfl) (hn : noDefer op = true := by rfl) : StpL P cx ops ⟨some d, op, ty, pos, af, gd⟩ ⟨tm, st, nb⟩ ⟨(d, v) :: tm, st', nb'⟩ := fun _ _ k => vl_v h hw hd hn k
theorem sx_u {st' : List E} {nb' : Nat} (hw : Wd ops tm gd := by first | exact trivial | exact wd_of rfl rfl (by with_reducible rfl))
    (h : OpU P cx op ty ⟨tm, st, nb⟩ st' nb' := by
      first
        | ((with_reducible apply u_store') <;> rfl)
        | ((with_reducible apply u_storer'); rfl; rfl; (first | rfl | assumption); rfl; rfl; rfl; rfl; rfl))
    (hn : noDefer op = true := by rfl) : StpL P cx ops ⟨none, op, ty, pos, af, gd⟩ ⟨tm, st, nb⟩ ⟨tm, st', nb'⟩ := fun _ _ k => vl_u h hw hn k
theorem sx_skip {j : Nat} {b : Bool} {t : Nat} {v : V} (h1 : (ops[j]?).bind (·.dst) = some t := by rfl) (h2 : lookT t tm = some v := by rfl) (hc : SkipB b v := by first | ((with_reducible apply SkipB.tf); with_reducible rfl) | ((with_reducible apply SkipB.ft); with_reducible rfl)) (hd : Nat.blt d cx.N = true := by rfl) :
    StpL P cx ops ⟨some d, op, ty, pos, af, some (j, b)⟩ ⟨tm, st, nb⟩ ⟨(d, .d (.lit undef)) :: tm, st, nb⟩ := fun _ _ k => let ⟨_, e, hc⟩ := hc.of; vl_skip h1 (h2.trans (congrArg some e)) hc hd k
theorem sx_skipu {j : Nat} {b : Bool} {t : Nat} (h1 : (ops[j]?).bind (·.dst) = some t := by rfl) (h2 : lookT t tm = some (.d (.lit undef)) := by rfl) (hd : Nat.blt d cx.N = true := by rfl) :
    StpL P cx ops ⟨some d, op, ty, pos, af, some (j, b)⟩ ⟨tm, st, nb⟩ ⟨(d, .d (.lit undef)) :: tm, st, nb⟩ := fun _ _ k => vl_skipu h1 h2 hd k
def opK : Op → Nat
  | .alloc _ => 1
  | .box _ _ => 1
  | .buildSlice _ _ _ => 1
  | .makeSlice _ _ _ => 1
  | .store _ _ _ => 3
  | .panic _ => 5
  | .defer _ => 6
  | .call c => (match c.callee with
    | .value _ => 4
    | .invoke _ _ => 4
    | .builtin .append => 2
    | .builtin .copy => 2
    | .builtin .recover => 6
    | .builtin _ => 0)
  | _ => 0
theorem vl_k {P : Program} {cx : Cx} {ops rest : List Oper} {o : Oper} {s : St} {Q : VE → St → Prop} (n : Nat) (h : VL P cx ops (o :: rest) s Q) (_ : Nat.beq (opK o.op) n = true := by rfl) : VL P cx ops (o :: rest) s Q := h
theorem vd_k {P : Program} {cx : Cx} {Q : VE → St → Prop} {l : List Oper} {tm0 : List (Nat × V)} {st0 stO : List E} {nb0 : Nat} {ds : List Nat} {hd tl : List Oper} {i : Nat} {acc : List Ac} {tm : List (Nat × V)} {st : List E} {nb : Nat} {o : Oper} (n : Nat)
    (h : VD P cx l tm0 st0 stO nb0 ds Q (o :: hd) tl i acc tm st nb) (_ : Nat.beq (opK o.op) n = true := by rfl) : VD P cx l tm0 st0 stO nb0 ds Q (o :: hd) tl i acc tm st nb := h
theorem vl_gd {P : Program} {cx : Cx} {ops rest : List Oper} {d : Option Tmp} {op : Op} {ty : TypeId} {pos : String} {af : Array Edge} {gd : Nat × Bool} {s : St} {Q : VE → St → Prop} (h : VL P cx ops (⟨d, op, ty, pos, af, some gd⟩ :: rest) s Q) : VL P cx ops (⟨d, op, ty, pos, af, some gd⟩ :: rest) s Q := h
theorem vd_gd {P : Program} {cx : Cx} {Q : VE → St → Prop} {l : List Oper} {tm0 : List (Nat × V)} {st0 stO : List E} {nb0 : Nat} {ds : List Nat} {hd tl : List Oper} {i : Nat} {acc : List Ac} {tm : List (Nat × V)} {st : List E} {nb : Nat} {d : Option Tmp} {op : Op} {ty : TypeId} {pos : String} {af : Array Edge} {gd : Nat × Bool}
    (h : VD P cx l tm0 st0 stO nb0 ds Q (⟨d, op, ty, pos, af, some gd⟩ :: hd) tl i acc tm st nb) : VD P cx l tm0 st0 stO nb0 ds Q (⟨d, op, ty, pos, af, some gd⟩ :: hd) tl i acc tm st nb := h
theorem vs_x (k : VL P cx ops rest s' Q) (h : StpL P cx ops o s s' := by first | exact sx_q | exact sx_u | exact sx_r | exact sx_v | exact sx_skip | exact sx_skipu) : VL P cx ops (o :: rest) s Q := h _ _ k
theorem vs_xg (k : VL P cx ops rest s' Q) (h : StpL P cx ops o s s' := by first | exact sx_skip | exact sx_skipu) : VL P cx ops (o :: rest) s Q := h _ _ k
theorem vs_xq (k : VL P cx ops rest s' Q) (h : StpL P cx ops o s s' := by exact sx_q) : VL P cx ops (o :: rest) s Q := h _ _ k
theorem vs_xr (k : VL P cx ops rest s' Q) (h : StpL P cx ops o s s' := by exact sx_r) : VL P cx ops (o :: rest) s Q := h _ _ k
theorem vs_xv (k : VL P cx ops rest s' Q) (h : StpL P cx ops o s s' := by first | exact sx_r | exact sx_v) : VL P cx ops (o :: rest) s Q := h _ _ k
theorem vs_xu (k : VL P cx ops rest s' Q) (h : StpL P cx ops o s s' := by exact sx_u) : VL P cx ops (o :: rest) s Q := h _ _ k
def CallS (P : Program) (cx : Cx) (ops : List Oper) (o : Oper) (s s' : St) (f : FuncId) (ds : List D) (post : R → Prop) : Prop := VP P f ds post → StpL P cx ops o s s'
section
variable {t : Tmp} {x : Operand} {f : FuncId} {xs : Array Operand} {tys : Array TypeId} {v : V} {vs az : List V} {ds' ds : List D} {dd : D}
theorem sc_ret (hx : evalV ⟨tm, st, nb⟩ x = some v := by rfl) (hv : evalVs ⟨tm, st, nb⟩ xs.toList = some vs := by rfl) (hf : fnV v vs = some (f, az) := by rfl) (ha : AD st az ds' := by first | exact ad_of rfl | ((repeat' (first | exact ad_nil | exact ad_map | ((apply ad_cons); rfl))); fail_if_success (focus skip))) (hd : DLs ds' ds := by ((repeat' (first | exact dls_nil | with_reducible apply dls_cons | with_reducible exact dl_lit _ | with_reducible exact dl_lf _ | infer_instance | with_reducible apply dl_agg | with_reducible apply dl_ifc | with_reducible apply dl_pt | with_reducible apply dl_fn | with_reducible apply dl_slr | assumption | apply dl_slr)); fail_if_success (focus skip))) (hw : Wd ops tm gd := by first | exact trivial | exact wd_of rfl rfl (by with_reducible rfl)) (ht : Nat.blt t cx.N = true := by rfl) :
    CallS P cx ops ⟨some t, .call { callee := .value x, args := xs, argTypes := tys }, ty, pos, af, gd⟩ ⟨tm, st, nb⟩ ⟨(t, .d dd) :: tm, st, nb⟩ f ds (· = .ret dd) := fun hc _ _ k => vl_ret hc hx hv hf ha hd hw ht k
theorem sc_own {e : TypeId} {sz : Nat} {l : List (List D)} (hx : evalV ⟨tm, st, nb⟩ x = some v := by rfl) (hv : evalVs ⟨tm, st, nb⟩ xs.toList = some vs := by rfl) (hf : fnV v vs = some (f, az) := by rfl) (ha : AD st az ds' := by first | exact ad_of rfl | ((repeat' (first | exact ad_nil | exact ad_map | ((apply ad_cons); rfl))); fail_if_success (focus skip))) (hd : DLs ds' ds := by ((repeat' (first | exact dls_nil | with_reducible apply dls_cons | with_reducible exact dl_lit _ | with_reducible exact dl_lf _ | infer_instance | with_reducible apply dl_agg | with_reducible apply dl_ifc | with_reducible apply dl_pt | with_reducible apply dl_fn | with_reducible apply dl_slr | assumption | apply dl_slr)); fail_if_success (focus skip))) (hw : Wd ops tm gd := by first | exact trivial | exact wd_of rfl rfl (by with_reducible rfl)) (ht : Nat.blt t cx.N = true := by rfl) :
    CallS P cx ops ⟨some t, .call { callee := .value x, args := xs, argTypes := tys }, ty, pos, af, gd⟩ ⟨tm, st, nb⟩ ⟨(t, .row nb 0) :: tm, .r true true nb 0 e sz l :: st, nb + 1⟩ f ds (· = .own e sz l) := fun hc _ _ k => vl_own hc hx hv hf ha hd hw ht k
theorem sc_lent (hx : evalV ⟨tm, st, nb⟩ x = some v := by rfl) (hv : evalVs ⟨tm, st, nb⟩ xs.toList = some vs := by rfl) (hf : fnV v vs = some (f, az) := by rfl) (ha : lendDs st 64 az = some ds' := by rfl) (hd : DLs ds' ds := by ((repeat' (first | exact dls_nil | with_reducible apply dls_cons | with_reducible exact dl_lit _ | with_reducible exact dl_lf _ | infer_instance | with_reducible apply dl_agg | with_reducible apply dl_ifc | with_reducible apply dl_pt | with_reducible apply dl_fn | with_reducible apply dl_slr | assumption | apply dl_slr)); fail_if_success (focus skip))) (hfl : NewD dd := by infer_instance) (hw : Wd ops tm gd := by first | exact trivial | exact wd_of rfl rfl (by with_reducible rfl)) (ht : Nat.blt t cx.N = true := by rfl) :
    CallS P cx ops ⟨some t, .call { callee := .value x, args := xs, argTypes := tys }, ty, pos, af, gd⟩ ⟨tm, st, nb⟩ ⟨(t, .d dd) :: tm, st, nb⟩ f ds (· = .ret dd) := fun hc _ _ k => vl_lent hc hx hv hf ha hd hfl hw ht (fun _ e => by cases e; exact k) (fun _ _ _ e => by cases e) (fun _ e => by cases e)
theorem sc_lento {e : TypeId} {sz : Nat} {l : List (List D)} (hx : evalV ⟨tm, st, nb⟩ x = some v := by rfl) (hv : evalVs ⟨tm, st, nb⟩ xs.toList = some vs := by rfl) (hf : fnV v vs = some (f, az) := by rfl) (ha : lendDs st 64 az = some ds' := by rfl) (hd : DLs ds' ds := by ((repeat' (first | exact dls_nil | with_reducible apply dls_cons | with_reducible exact dl_lit _ | with_reducible exact dl_lf _ | infer_instance | with_reducible apply dl_agg | with_reducible apply dl_ifc | with_reducible apply dl_pt | with_reducible apply dl_fn | with_reducible apply dl_slr | assumption | apply dl_slr)); fail_if_success (focus skip))) (hfl : NewLs l := by infer_instance) (hw : Wd ops tm gd := by first | exact trivial | exact wd_of rfl rfl (by with_reducible rfl)) (ht : Nat.blt t cx.N = true := by rfl) :
    CallS P cx ops ⟨some t, .call { callee := .value x, args := xs, argTypes := tys }, ty, pos, af, gd⟩ ⟨tm, st, nb⟩ ⟨(t, .row nb 0) :: tm, .r true true nb 0 e sz l :: st, nb + 1⟩ f ds (· = .own e sz l) := fun hc _ _ k => vl_lent hc hx hv hf ha hd hfl hw ht (fun _ e => by cases e) (fun _ _ _ e => by cases e; exact k) (fun _ e => by cases e)
end
theorem vs_call {f : FuncId} {ds : List D} {post : R → Prop} (hc : VP P f ds post) (k : VL P cx ops rest s' Q) (h : CallS P cx ops o s s' f ds post := by first | exact sc_ret | exact sc_own | exact sc_lent | exact sc_lento) : VL P cx ops (o :: rest) s Q := h hc _ _ k
end
structure DrawOK (P : Program) (l : List Oper) (n : Nat) (hd tl : List Oper) : Prop where
  hB : drawB l n = true
  hm : P.follows .mixedOrders = true
  hsp : splitN n l = some (hd, tl)
theorem vw_drawx {P : Program} {cx : Cx} {l : List Oper} {Q : VE → St → Prop} {id n nb : Nat} {tm : List (Nat × V)} {st : List E} {hd tl : List Oper} (h : VD P cx l tm st st nb (dstL hd) Q hd tl 0 [] tm st nb) (hk : DrawOK P l n hd tl := by
    first | exact .mk (n := 1) (by decide +kernel) (by kernel_rfl) rfl | exact .mk (n := 2) (by decide +kernel) (by kernel_rfl) rfl | exact .mk (n := 3) (by decide +kernel) (by kernel_rfl) rfl | exact .mk (n := 4) (by decide +kernel) (by kernel_rfl) rfl | exact .mk (n := 5) (by decide +kernel) (by kernel_rfl) rfl | exact .mk (n := 6) (by decide +kernel) (by kernel_rfl) rfl | exact .mk (n := 7) (by decide +kernel) (by kernel_rfl) rfl | exact .mk (n := 8) (by decide +kernel) (by kernel_rfl) rfl | exact .mk (n := 9) (by decide +kernel) (by kernel_rfl) rfl | exact .mk (n := 10) (by decide +kernel) (by kernel_rfl) rfl | exact .mk (n := 11) (by decide +kernel) (by kernel_rfl) rfl | exact .mk (n := 12) (by decide +kernel) (by kernel_rfl) rfl | exact .mk (n := 13) (by decide +kernel) (by kernel_rfl) rfl | exact .mk (n := 14) (by decide +kernel) (by kernel_rfl) rfl | exact .mk (n := 15) (by decide +kernel) (by kernel_rfl) rfl | exact .mk (n := 16) (by decide +kernel) (by kernel_rfl) rfl | exact .mk (n := 17) (by decide +kernel) (by kernel_rfl) rfl | exact .mk (n := 18) (by decide +kernel) (by kernel_rfl) rfl | exact .mk (n := 19) (by decide +kernel) (by kernel_rfl) rfl | exact .mk (n := 20) (by decide +kernel) (by kernel_rfl) rfl | exact .mk (n := 21) (by decide +kernel) (by kernel_rfl) rfl | exact .mk (n := 22) (by decide +kernel) (by kernel_rfl) rfl | exact .mk (n := 23) (by decide +kernel) (by kernel_rfl) rfl | exact .mk (n := 24) (by decide +kernel) (by kernel_rfl) rfl | exact .mk (n := 25) (by decide +kernel) (by kernel_rfl) rfl | exact .mk (n := 26) (by decide +kernel) (by kernel_rfl) rfl | exact .mk (n := 27) (by decide +kernel) (by kernel_rfl) rfl | exact .mk (n := 28) (by decide +kernel) (by kernel_rfl) rfl | exact .mk (n := 29) (by decide +kernel) (by kernel_rfl) rfl | exact .mk (n := 30) (by decide +kernel) (by kernel_rfl) rfl | exact .mk (n := 31) (by decide +kernel) (by kernel_rfl) rfl | exact .mk (n := 32) (by decide +kernel) (by kernel_rfl) rfl | exact .mk (n := 33) (by decide +kernel) (by kernel_rfl) rfl | exact .mk (n := 34) (by decide +kernel) (by kernel_rfl) rfl | exact .mk (n := 35) (by decide +kernel) (by kernel_rfl) rfl | exact .mk (n := 36) (by decide +kernel) (by kernel_rfl) rfl | exact .mk (n := 37) (by decide +kernel) (by kernel_rfl) rfl | exact .mk (n := 38) (by decide +kernel) (by kernel_rfl) rfl | exact .mk (n := 39) (by decide +kernel) (by kernel_rfl) rfl | exact .mk (n := 40) (by decide +kernel) (by kernel_rfl) rfl) : VW P cx (.region id l.toArray true) ⟨tm, st, nb⟩ Q := vw_draw n hk.hB hk.hm hk.hsp h
def calF (f : FuncId) (o : Oper) : Bool := match o.op with
  | .call c => (match c.callee with
    | .value (.func g) => Nat.beq f g
    | .value _ => true
    | _ => false)
  | _ => false
theorem vq_l {P : Program} {cx : Cx} {ops rest : List Oper} {o : Oper} {s : St} {Q : VE → St → Prop} {f : FuncId} {ds : List D} {post : R → Prop} (_ : VP P f ds post) (h : VL P cx ops (o :: rest) s Q) (_ : calF f o = true := by rfl) : VL P cx ops (o :: rest) s Q := h
theorem vq_d {P : Program} {cx : Cx} {Q : VE → St → Prop} {l : List Oper} {tm0 : List (Nat × V)} {st0 stO : List E} {nb0 : Nat} {ds : List Nat} {hd tl : List Oper} {i : Nat} {acc : List Ac} {tm : List (Nat × V)} {st : List E} {nb : Nat} {o : Oper} {f : FuncId} {dd : List D} {post : R → Prop} (_ : VP P f dd post)
    (h : VD P cx l tm0 st0 stO nb0 ds Q (o :: hd) tl i acc tm st nb) (_ : calF f o = true := by rfl) : VD P cx l tm0 st0 stO nb0 ds Q (o :: hd) tl i acc tm st nb := h
end Go.Proofs.YtnjaohdadaifhaaGreat
