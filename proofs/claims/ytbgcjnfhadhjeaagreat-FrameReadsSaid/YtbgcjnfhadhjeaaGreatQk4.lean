/- Walks by data and names, part 4: Operations of walks: what only computes, and what reads. -/
import Derived.Deep.MidRow
import Derived.ChangeKeysEq
import Derived.Test.YtbgcjnfhadhjeaaGreatQk3
namespace Go.Proofs.YtbgcjnfhadhjeaaGreat
set_option maxRecDepth 20000
open Go.RowKit
abbrev IE (op : Op) (ty : TypeId) : Oper := ⟨none, op, ty, "", #[], none⟩
def Bq (P : Program) (cx : Cx) (op : Op) (ty : TypeId) (s : St) (v : V) : Prop :=
 ∀ g a w, Dg cx g a w s → ∃ u, (execOp a.eval (IE op ty)).run P w = .ok (.value u) w ∧ vrep cx.B g w v u
def Y4 (P : Program) (cx : Cx) (op : Op) (ty : TypeId) (s : St) (v : V) (st' : List E) (nb' : Nat) : Prop :=
 ∀ g a w, Dg cx g a w s → ∃ u g' w', (execOp a.eval (IE op ty)).run P w = .ok (.value u) w' ∧ BZ cx.B g w g' w' ∧ AC cx.B g' w' st' ∧ CG cx.B nb' g' w' ∧ vrep cx.B g' w' v u
def Y5 (P : Program) (cx : Cx) (op : Op) (ty : TypeId) (s : St) (st' : List E) (nb' : Nat) : Prop :=
 ∀ g a w, Dg cx g a w s → ∃ g' w', (execOp a.eval (IE op ty)).run P w = .ok .skip w' ∧ BZ cx.B g w g' w' ∧ AC cx.B g' w' st' ∧ CG cx.B nb' g' w'
def OpP (P : Program) (cx : Cx) (op : Op) (ty : TypeId) (s : St) (v : V) : Prop :=
 ∀ g a w, Dg cx g a w s → ∃ u, (execOp a.eval (IE op ty)).run P w = .halt (.panic u) w ∧ vrep cx.B g w v u
def Wd (ops : List Oper) (tm : List (Nat × V)) : Option (Nat × Bool) → Prop
 | none => True
 | some (j, b) => ∃ t, (ops[j]?).bind (·.dst) = some t ∧ AA t tm = some (.d (.lit (.bool b)))
theorem A1 {ops : List Oper} {tm : List (Nat × V)} {j : Nat} {b : Bool} {t : Tmp} {v : V} (h1 : (ops[j]?).bind (·.dst) = some t) (h2 : AA t tm = some v) (h3 : v = .d (.lit (.bool b))) : Wd ops tm (some (j, b)) := ⟨t, h1, by rw [h2, h3]⟩
inductive HF (b : Bool) : V → Prop where
 | tf : b = false → HF b (.d (.lit (.bool true)))
 | ft : b = true → HF b (.d (.lit (.bool false)))
theorem HF.of {b : Bool} {v : V} (h : HF b v) : ∃ c, v = .d (.lit (.bool c)) ∧ (c == b) = false := by
 cases h with
 | tf h => subst h; exact ⟨true, rfl, rfl⟩
 | ft h => subst h; exact ⟨false, rfl, rfl⟩
def BS : Op → Bool
 | .defer _ => false
 | _ => true
theorem Mr.evo {B : Nat} {g g' : G} {w w' : World} (hE : BZ B g w g' w') : ∀ {df : List (FuncId × List V)} {ds : List Deferred}, Mr B g w df ds → Mr B g' w' df ds
 | [], _, h => h
 | (_, _) :: _, _, ⟨us, r, e, h1, h2⟩ => ⟨us, r, e, hE.vreps h1, Mr.evo hE h2⟩
theorem L0.evo {cx : Cx} {g g' : G} {w w' : World} {ds : List Deferred} (h : L0 cx g w ds) (hE : BZ cx.B g w g' w') : L0 cx g' w' ds := by
 obtain ⟨hm, bs, r, e, hn, h, hr⟩ := h
 refine ⟨fun m h => Nat.le_trans (hm m h) hE.size, bs, r, e, hn, fun b hb => ?_, hr.evo hE⟩
 obtain ⟨h1, h2, h3⟩ := h b hb
 have := hE.blk b (Array.getElem?_eq_some_iff.1 h3).1 h1
 exact ⟨this.1, h2, this.2.trans h3⟩
section
variable {P : Program} {cx : Cx} {s : St} {Q : VE → St → Prop} {ops rest : List Oper}
theorem Wd.wanted {g : G} {a : Act} {w : World} (h : Dg cx g a w s) {o : Oper} (hw : Wd ops s.tm o.guard) : Region.wanted o (yielded ops.toArray a.tmps) = true := by
 unfold Region.wanted
 cases hg : o.guard with
 | none => rfl
 | some p =>
  obtain ⟨j, b⟩ := p
  rw [hg] at hw
  obtain ⟨t, h1, h2⟩ := hw
  have h3 := h.tm h2
  simp only [vrep, drep] at h3
  simp only [yielded, List.getElem?_toArray, h1, Option.bind_some]
  have h4 : a.tmps[t]? = some (.bool b) := by
   cases hq : a.tmps[t]? with
   | none => rw [Array.getD_eq_getD_getElem?, hq] at h3; simp [undef] at h3
   | some x => rw [Array.getD_eq_getD_getElem?, hq] at h3; simp at h3; rw [h3]
  rw [h4]
  simp
theorem Dg.put {g g' : G} {a : Act} {w w' : World} (h : Dg cx g a w s) (hE : BZ cx.B g w g' w') {d : Tmp} {v : V} {u : Value} {st' : List E} {nb' : Nat} (hd : d < cx.N) (hs : AC cx.B g' w' st') (hi : CG cx.B nb' g' w') (hv : vrep cx.B g' w' v u) :
  Dg cx g' (a.put (some d) u) w' ⟨(d, v) :: s.tm, st', nb'⟩ := by
 refine ⟨by simp [Act.put, h.size], fun {t x} hx => ?_, hs, hi, h.defers.evo hE⟩
 simp only [AA] at hx
 simp only [Act.put, Array.getD_eq_getD_getElem?]
 split at hx
 ·rename_i hb
  have := Nat.eq_of_beq_eq_true hb
  subst this
  cases hx
  rw [Array.getElem?_setIfInBounds_self_of_lt (by rw [h.size]; exact hd)]
  exact hv
 ·rename_i hb
  have hne : d ≠ t := fun e => by subst e; rw [Nat.beq_refl] at hb; cases hb
  rw [Array.getElem?_setIfInBounds_ne hne, ← Array.getD_eq_getD_getElem?]
  exact hE.vrep (h.tm hx)
theorem Dg.same {g g' : G} {a : Act} {w w' : World} (h : Dg cx g a w s) (hE : BZ cx.B g w g' w') {st' : List E} {nb' : Nat} (hs : AC cx.B g' w' st') (hi : CG cx.B nb' g' w') : Dg cx g' a w' ⟨s.tm, st', nb'⟩ :=
 ⟨h.size, fun hx => hE.vrep (h.tm hx), hs, hi, h.defers.evo hE⟩
theorem Bn (ρ : Operand → Value) (o : Oper) : execOp ρ o = execOp ρ (IE o.op o.type) := rfl
theorem Wx {d : Tmp} {op : Op} {ty : TypeId} {pos : String} {af : Array Edge} {gd : Option (Nat × Bool)} {v : V} {st' : List E} {nb' : Nat} (h : Y4 P cx op ty s v st' nb') (hw : Wd ops s.tm gd) (hd : Nat.blt d cx.N = true) (hn : BS op = true)
  (k : VL P cx ops rest ⟨(d, v) :: s.tm, st', nb'⟩ Q) : VL P cx ops (⟨some d, op, ty, pos, af, gd⟩ :: rest) s Q := fun n g0 w0 g a w hE hS => by
 obtain ⟨u, g', w', hr, h1, h2, h3, h4⟩ := h g a w hS
 simp only [BH]
 rw [if_pos (Wd.wanted (o := ⟨some d, op, ty, pos, af, gd⟩) hS hw)]
 refine ⟨fun _ _ => trivial, ?_⟩
 rw [Oper.semAt_plain (FW cx.rd) _ _ (by intro c e; simp only at e; subst e; cases hn), Bn, hr]
 exact k n g0 w0 g' _ w' (hE.trans h1) (hS.put h1 (Nat.le_of_ble_eq_true hd) h2 h3 h4)
theorem Wz {d : Tmp} {op : Op} {ty : TypeId} {pos : String} {af : Array Edge} {gd : Option (Nat × Bool)} {v : V} (h : Bq P cx op ty s v) (hw : Wd ops s.tm gd) (hd : Nat.blt d cx.N = true) (hn : BS op = true)
  (k : VL P cx ops rest ⟨(d, v) :: s.tm, s.st, s.nb⟩ Q) : VL P cx ops (⟨some d, op, ty, pos, af, gd⟩ :: rest) s Q :=
 Wx (fun g a w hS => let ⟨u, h1, h2⟩ := h g a w hS; ⟨u, g, w, h1, BZ.refl _ _ _, hS.st, hS.inv, h2⟩) hw hd hn k
theorem Zh {op : Op} {ty : TypeId} {pos : String} {af : Array Edge} {gd : Option (Nat × Bool)} {st' : List E} {nb' : Nat} (h : Y5 P cx op ty s st' nb') (hw : Wd ops s.tm gd) (hn : BS op = true)
  (k : VL P cx ops rest ⟨s.tm, st', nb'⟩ Q) : VL P cx ops (⟨none, op, ty, pos, af, gd⟩ :: rest) s Q := fun n g0 w0 g a w hE hS => by
 obtain ⟨g', w', hr, h1, h2, h3⟩ := h g a w hS
 simp only [BH]
 rw [if_pos (Wd.wanted (o := ⟨none, op, ty, pos, af, gd⟩) hS hw)]
 refine ⟨fun _ _ => trivial, ?_⟩
 rw [Oper.semAt_plain (FW cx.rd) _ _ (by intro c e; simp only at e; subst e; cases hn), Bn, hr]
 exact k n g0 w0 g' _ w' (hE.trans h1) (hS.same h1 h2 h3)
theorem Ac4 {d : Option Tmp} {op : Op} {ty : TypeId} {pos : String} {af : Array Edge} {gd : Option (Nat × Bool)} {v : V} (h : OpP P cx op ty s v) (hw : Wd ops s.tm gd) (hn : BS op = true) (k : Q (.panic v) s) :
  VL P cx ops (⟨d, op, ty, pos, af, gd⟩ :: rest) s Q := fun n g0 w0 g a w hE hS => by
 obtain ⟨u, hr, h1⟩ := h g a w hS
 simp only [BH]
 rw [if_pos (Wd.wanted (o := ⟨d, op, ty, pos, af, gd⟩) hS hw)]
 refine ⟨fun _ _ => trivial, ?_⟩
 rw [Oper.semAt_plain (FW cx.rd) _ _ (by intro c e; simp only at e; subst e; cases hn), Bn, hr]
 exact ⟨g, s, .panic v, hE, hS, ⟨u, rfl, h1⟩, k⟩
theorem Wy {d : Tmp} {op : Op} {ty : TypeId} {pos : String} {af : Array Edge} {j : Nat} {b c : Bool} {t : Nat} (h1 : (ops[j]?).bind (·.dst) = some t) (h2 : AA t s.tm = some (.d (.lit (.bool c)))) (hc : (c == b) = false) (hd : Nat.blt d cx.N = true)
  (k : VL P cx ops rest ⟨(d, .d (.lit undef)) :: s.tm, s.st, s.nb⟩ Q) : VL P cx ops (⟨some d, op, ty, pos, af, some (j, b)⟩ :: rest) s Q := fun n g0 w0 g a w hE hS => by
 have h3 := hS.tm h2
 simp only [vrep, drep] at h3
 have h4 : a.tmps[t]? = some (.bool c) := by
  cases hq : a.tmps[t]? with
  | none => rw [Array.getD_eq_getD_getElem?, hq] at h3; simp [undef] at h3
  | some x => rw [Array.getD_eq_getD_getElem?, hq] at h3; simp at h3; rw [h3]
 have hw : Region.wanted ⟨some d, op, ty, pos, af, some (j, b)⟩ (yielded ops.toArray a.tmps) = false := by
  simp only [Region.wanted, yielded, List.getElem?_toArray, h1, Option.bind_some, h4]
  simpa using hc
 simp only [BH]
 rw [if_neg (by rw [hw]; simp)]
 exact ⟨fun _ _ => trivial, k n g0 w0 g _ w hE (hS.put (BZ.refl _ _ _) (Nat.le_of_ble_eq_true hd) hS.st hS.inv (by simp only [vrep, drep]))⟩
theorem Tf {d : Tmp} {op : Op} {ty : TypeId} {pos : String} {af : Array Edge} {j : Nat} {b : Bool} {t : Nat} (h1 : (ops[j]?).bind (·.dst) = some t) (h2 : AA t s.tm = some (.d (.lit undef))) (hd : Nat.blt d cx.N = true)
  (k : VL P cx ops rest ⟨(d, .d (.lit undef)) :: s.tm, s.st, s.nb⟩ Q) : VL P cx ops (⟨some d, op, ty, pos, af, some (j, b)⟩ :: rest) s Q := fun n g0 w0 g a w hE hS => by
 have h3 := hS.tm h2
 simp only [vrep, drep] at h3
 have hw : Region.wanted ⟨some d, op, ty, pos, af, some (j, b)⟩ (yielded ops.toArray a.tmps) = false := by
  simp only [Region.wanted, yielded, List.getElem?_toArray, h1, Option.bind_some]
  rw [Array.getD_eq_getD_getElem?] at h3
  cases hq : a.tmps[t]? with
  | none => rfl
  | some x => rw [hq] at h3; simp only [Option.getD_some] at h3; subst h3; rfl
 simp only [BH]
 rw [if_neg (by rw [hw]; simp)]
 exact ⟨fun _ _ => trivial, k n g0 w0 g _ w hE (hS.put (BZ.refl _ _ _) (Nat.le_of_ble_eq_true hd) hS.st hS.inv (by simp only [vrep, drep]))⟩
theorem QI {t : Nat} {b : Bool} (h : AA t s.tm = some (.d (.lit (.bool b)))) (h1 : b = true → VL P cx ops rest ⟨(t, .d (.lit (.bool true))) :: s.tm, s.st, s.nb⟩ Q) (h2 : b = false → VL P cx ops rest ⟨(t, .d (.lit (.bool false))) :: s.tm, s.st, s.nb⟩ Q) :
  VL P cx ops rest s Q := fun n g0 w0 g a w hE hS => by
 have key : ∀ c, b = c → Dg cx g a w ⟨(t, .d (.lit (.bool c))) :: s.tm, s.st, s.nb⟩ := fun c hc => by
  refine ⟨hS.size, fun {t' x} hx => ?_, hS.st, hS.inv, hS.defers⟩
  simp only [AA] at hx
  split at hx
  ·rename_i hb
   have := Nat.eq_of_beq_eq_true hb
   subst this
   cases hx
   rw [← hc]; exact hS.tm h
  ·exact hS.tm hx
 cases hb : b with
 | true => exact h1 hb n g0 w0 g a w hE (key _ hb)
 | false => exact h2 hb n g0 w0 g a w hE (key _ hb)
theorem Ti {t : Nat} {p : Prop} [Decidable p] (h : AA t s.tm = some (.d (.lit (.bool (decide p))))) (h1 : p → VL P cx ops rest ⟨(t, .d (.lit (.bool true))) :: s.tm, s.st, s.nb⟩ Q) (h2 : ¬ p → VL P cx ops rest ⟨(t, .d (.lit (.bool false))) :: s.tm, s.st, s.nb⟩ Q) :
  VL P cx ops rest s Q := QI h (fun e => h1 (of_decide_eq_true e)) (fun e => h2 (of_decide_eq_false e))
theorem FG {x : Operand} {v w : V} (h : Af s x = some v) (hv : v = w) : Af s x = some w := by rw [h, hv]
theorem P0 {x : Operand} {ty : TypeId} {v : V} (h : Af s x = some v) : Bq P cx (.move x) ty s v := fun _ _ _ hS => ⟨_, rfl, hS.eval h⟩
theorem Lj {x : Operand} {ty : TypeId} {v : V} (h : Af s x = some v) : Bq P cx (.assign x) ty s v := fun _ _ _ hS => ⟨_, rfl, hS.eval h⟩
def ifV : Bool → Option V → Option V → Option V
 | true, x, _ => x
 | false, _, y => y
theorem Uz {c x y : Operand} {ty : TypeId} {b : Bool} {v : V} (hc : Af s c = some (.d (.lit (.bool b)))) (h : ifV b (Af s x) (Af s y) = some v) : Bq P cx (.pick c x y) ty s v := fun g a w hS => by
 have hc' := hS.eval hc
 simp only [vrep, drep] at hc'
 cases b with
 | true => exact ⟨_, by simp [execOp, hc', asBool], hS.eval h⟩
 | false => exact ⟨_, by simp [execOp, hc', asBool], hS.eval h⟩
theorem Nv {c x y : Operand} {ty : TypeId} {v : V} (hc : Af s c = some (.d (.lit (.bool true)))) (h : Af s x = some v) : Bq P cx (.pick c x y) ty s v := Uz hc h
theorem Nx {c x y : Operand} {ty : TypeId} {v : V} (hc : Af s c = some (.d (.lit (.bool false)))) (h : Af s y = some v) : Bq P cx (.pick c x y) ty s v := Uz hc h
theorem FD {op : BinOp} {t yt ty : TypeId} {x y : Operand} {a b u : Value} (hx : Af s x = some (.d (.lit a))) (hy : Af s y = some (.d (.lit b))) (hr : ∀ w, (do eqGuard op t x y a b; binOp op t a b : Sem Value).run P w = .ok u w) :
  Bq P cx (.binOp op t x y yt) ty s (.d (.lit u)) := fun g ac w hS => by
 have h1 := hS.eval hx
 have h2 := hS.eval hy
 simp only [vrep, drep] at h1 h2
 refine ⟨u, ?_, by simp only [vrep, drep]⟩
 have := hr w
 simp only [execOp, h1, h2, Sem.run_bind, Sem.run_pure] at this ⊢
 rw [this]
 rfl
theorem PP {op : UnOp} {t ty : TypeId} {x : Operand} {a u : Value} (hx : Af s x = some (.d (.lit a))) (hr : ∀ w, (Op.unary op a).run P w = .ok u w) : Bq P cx (.unOp op t x) ty s (.d (.lit u)) := fun g ac w hS => by
 have h1 := hS.eval hx
 simp only [vrep, drep] at h1
 refine ⟨u, ?_, by simp only [vrep, drep]⟩
 simp only [execOp, h1, Sem.run_bind, Sem.run_pure, hr w]
 rfl
theorem UP {t1 t2 ty : TypeId} {x : Operand} {a u : Value} (hx : Af s x = some (.d (.lit a))) (hr : ∀ w, (convert t1 t2 a).run P w = .ok u w) : Bq P cx (.convert t1 t2 x) ty s (.d (.lit u)) := fun g ac w hS => by
 have h1 := hS.eval hx
 simp only [vrep, drep] at h1
 refine ⟨u, ?_, by simp only [vrep, drep]⟩
 simp only [execOp, h1, Sem.run_bind, Sem.run_pure, hr w]
 rfl
end

end Go.Proofs.YtbgcjnfhadhjeaaGreat