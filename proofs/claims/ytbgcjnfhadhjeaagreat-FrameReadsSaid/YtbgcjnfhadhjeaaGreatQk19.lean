/- Walks by data and names, part 19: Walks in short, 2: contracts by name, ranges over functions. -/
import Derived.Test.YtbgcjnfhadhjeaaGreatQk18
namespace Go.Proofs.YtbgcjnfhadhjeaaGreat
set_option maxRecDepth 20000
open Go.RowKit
class DE (x y : D) : Prop where
 le : ∀ B U w u, drep B U w x u → drep B U w y u
class DEs (x y : List D) : Prop where
 le : ∀ B U w u, dreps B U w x u → dreps B U w y u
instance A7 (x : D) : DE x x := ⟨fun _ _ _ _ h => h⟩
instance Qo {c f : Bool} : DE (.lit (.slice none 0 0)) (.sl c f []) := ⟨fun B U w u h => NS c f B U w u h⟩
instance AfT {c f : Bool} {l : List (List D)} : DE (.sl c f l) (.sl false false l) := ⟨AaM c f l⟩
instance Adr {c f : Bool} {l : List (List D)} : DE (.sl c f l) (.sl false f l) := ⟨X8 c f l⟩
instance Ads {x : D} : DE x .any := ⟨fun _ _ _ _ _ => by simp only [drep]⟩
instance AcS : DEs [] [] := ⟨fun _ _ _ _ h => h⟩
instance Acs {x y : D} {xs ys : List D} [h : DE x y] [hs : DEs xs ys] : DEs (x :: xs) (y :: ys) := ⟨fun B U w u k => by
 simp only [dreps] at k ⊢
 obtain ⟨z, zs, e, k1, k2⟩ := k
 exact ⟨z, zs, e, h.le _ _ _ _ k1, hs.le _ _ _ _ k2⟩⟩
instance Adt {xs ys : List D} [hs : DEs xs ys] : DE (.agg xs) (.agg ys) := ⟨fun B U w u k => by
 simp only [drep] at k ⊢
 obtain ⟨cs, e, k⟩ := k
 exact ⟨cs, e, hs.le _ _ _ _ k⟩⟩
instance Adq {xs ys : List D} [hs : DEs xs ys] : DE (.tup xs) (.tup ys) := ⟨fun B U w u k => by
 simp only [drep] at k ⊢
 obtain ⟨cs, e, k⟩ := k
 exact ⟨cs, e, hs.le _ _ _ _ k⟩⟩
def Cm : R → R → Prop
 | .ret d, .ret d' => DE d d'
 | .own _ _ l, .ret d' => DE (.sl false true l) d'
 | .own e sz l, .own e' sz' l' => e = e' ∧ sz = sz' ∧ l = l'
 | .panic d, .panic d' => DE d d'
 | _, _ => False
theorem T7 {B : Nat} {U : Nat → Prop} {w : World} {en : Ending} {e : TypeId} {sz : Nat} {l : List (List D)} (h : PL B U w (.own e sz l) en) (hU : ∀ b, B ≤ b → U b) : PL B U w (.ret (.sl false true l)) en := by
 obtain ⟨u, xs, rfl, k1, k2, k3⟩ := h
 refine ⟨u, rfl, ?_⟩
 have k4 : ∀ b, u.ownBlock = some b → B ≤ b := fun b hb => (k3.lt b hb).1
 exact GD (AL (Nat.le_refl _) (fun b _ hb => ⟨hb.1, rfl⟩) k1) k2.1 k2.2 (E7 k3 (Nat.zero_le _)) (fun _ b hb => k4 b hb) fun b hb => hU b (k4 b hb)
theorem VP.le {P : Program} {f : FuncId} {ds : List D} {r' : R} (h : VP P f ds fun r => Cm r r') : VP P f ds (· = r') :=
 ⟨h.1, fun U w us hu => (h.2 U w us hu).mono fun en w' ⟨h1, r, h2, h3⟩ => ⟨h1, r', rfl, by
  cases r with
  | ret d => cases r' with
   | ret d' => obtain ⟨u, rfl, k⟩ := h3; exact ⟨u, rfl, DE.le (self := h2) _ _ _ _ k⟩
   | own _ _ _ => exact h2.elim
   | panic _ => exact h2.elim
  | own e sz l => cases r' with
   | ret d' => obtain ⟨u, rfl, k⟩ := T7 h3 (fun b hb => .inr hb); exact ⟨u, rfl, DE.le (self := h2) _ _ _ _ k⟩
   | own _ _ _ => obtain ⟨rfl, rfl, rfl⟩ := h2; exact h3
   | panic _ => exact h2.elim
  | panic d => cases r' with
   | ret _ => exact h2.elim
   | own _ _ _ => exact h2.elim
   | panic d' => obtain ⟨u, rfl, k⟩ := h3; exact ⟨u, rfl, DE.le (self := h2) _ _ _ _ k⟩⟩⟩
theorem VP.data {P : Program} {f : FuncId} {ds : List D} {e : TypeId} {sz : Nat} {l : List (List D)} (h : VP P f ds (· = .own e sz l)) : VP P f ds (· = .ret (.sl false true l)) := VP.le (h.mono fun r e => by subst e; exact A7 _)
section
variable {P : Program} {cx : Cx} {ops rest : List Oper} {t k nbI N : Nat} {R : Loop} {T TI : Array Value} {Q : VE → St → Prop} {tm tm1 tm2 : List (Nat × V)} {st st2 : List E} {nb : Nat} {body : Code}
theorem XO {m : Nat} {K : RC → List E → Nat → Prop} {r : RC} (h : mK m K r st nb) : mK m K r st nb := h
theorem Vf {K : VE → St → Prop} {e : VE} {s : St} (h : Wa P cx body k R T K e s) : Wa P cx body k R T K e s := h
theorem Vd {e : VE} {s : St} (h : OG P cx ops rest t N k nbI R T TI Q e s) : OG P cx ops rest t N k nbI R T TI Q e s := h
theorem Vb {r : RC} (h : FR P cx k T Q r st nb) : FR P cx k T Q r st nb := h
theorem Ab1 {m : Nat} {K : RC → List E → Nat → Prop} {r : RC} (h : K r st nb) (hm : Nat.ble m nb = true := by rfl) : mK m K r st nb := ⟨h, Nat.le_of_ble_eq_true hm⟩
theorem Aaj {K : VE → St → Prop} (h : VW P cx body ⟨tm, .y k (some { R with state := .busy }) T tm1 :: st, nb⟩ K) (h1 : Au k st = some (some R, T, tm1) := by rfl) (h2 : AA cx.N tm1 = some (.yl k) := by rfl) : Wa P cx body k R T K .normal ⟨tm, st, nb⟩ := ⟨tm1, h1, h2, h⟩
theorem Adn {ps : Array Tmp} {assign : Code} (hOk : Fu N ps assign body R T) : ({ R with state := if true then .ready else .done, pending := none } : Loop) = R := by
 have h1 := hOk.state
 have h2 := hOk.pending
 cases R; simp_all
theorem Aah {ps : Array Tmp} {assign : Code} (hOk : Fu N ps assign body R T) (h : VL P cx ops rest ⟨(t, .d (.lit (.bool true))) :: tm2, .y k (some R) T tm1 :: st, nb⟩ Q)
  (h1 : Au k st = some (some { R with state := .busy }, T, tm1) := by rfl) (h2 : AA N tm1 = some (.yl k) := by rfl) (h3 : Au nbI st = some (none, TI, tm2) := by rfl) : OG P cx ops rest t N k nbI R T TI Q .normal ⟨tm, st, nb⟩ := ⟨tm1, tm2, h1, h2, h3, by rw [Adn hOk]; exact h⟩
theorem XL {v : V} (hfn : ∃ fn, P.funcs[R.fn]? = some fn) (h : Q (.panic v) ⟨tm2, st, nb⟩)
  (h1 : Au k st = some (some { R with state := .busy }, T, tm1) := by rfl) (h3 : Au nbI st = some (none, TI, tm2) := by rfl) : OG P cx ops rest t N k nbI R T TI Q (.panic v) ⟨tm, st, nb⟩ := ⟨hfn, tm1, tm2, h1, h3, h⟩
theorem XM {i : Nat} (h : VL P cx ops rest ⟨(t, .d (.lit (.bool false))) :: tm2, .y k (some { R with state := .done, pending := some (.exit i) }) T tm1 :: st, nb⟩ Q)
  (h1 : Au k st = some (some { R with state := .busy }, T, tm1) := by rfl) (h2 : AA N tm1 = some (.yl k) := by rfl) (h3 : Au nbI st = some (none, TI, tm2) := by rfl) : OG P cx ops rest t N k nbI R T TI Q (.exit i) ⟨tm, st, nb⟩ := ⟨tm1, tm2, h1, h2, h3, h⟩
theorem XK (h : VL P cx ops rest ⟨(t, .d (.lit (.bool false))) :: tm2, .y k (some { R with state := .done, pending := some .ret }) T tm1 :: st, nb⟩ Q)
  (h1 : Au k st = some (some { R with state := .busy }, T, tm1) := by rfl) (h2 : AA N tm1 = some (.yl k) := by rfl) (h3 : Au nbI st = some (none, TI, tm2) := by rfl) : OG P cx ops rest t N k nbI R T TI Q .ret ⟨tm, st, nb⟩ := ⟨tm1, tm2, h1, h2, h3, h⟩
theorem Aag {ps : Array Tmp} {assign : Code} {v : V} {N' : Nat} (hOk : Fu N' ps assign body R T) (h : Q .normal ⟨tm2, st2, nb⟩)
  (h1 : Au k st = some (some R, T, tm1) := by rfl) (h2 : AA cx.N tm1 = some (.yl k) := by rfl) (h3 : Hp cx.N tm1 = some tm2 := by rfl) (h4 : DX k st = some st2 := by rfl) : FR P cx k T Q (.ret v) st nb :=
 ⟨R, tm1, tm2, st2, h1, by rw [hOk.state]; simp, h2, h3, h4, by rw [hOk.pending]; exact h⟩
theorem XJ {v : V} {c : Code} (h : VW P cx c ⟨tm2, st2, nb⟩ Q)
  (h1 : Au k st = some (some { R with state := .done, pending := some c }, T, tm1) := by rfl) (h2 : AA cx.N tm1 = some (.yl k) := by rfl) (h3 : Hp cx.N tm1 = some tm2 := by rfl) (h4 : DX k st = some st2 := by rfl) : FR P cx k T Q (.ret v) st nb :=
 ⟨_, tm1, tm2, st2, h1, by simp, h2, h3, h4, h⟩
theorem XI {v : V} {R' : Loop} (h : Q (.panic v) ⟨tm2, st2, nb⟩)
  (h1 : Au k st = some (some R', T, tm1) := by rfl) (h2 : AA cx.N tm1 = some (.yl k) := by rfl) (h3 : Hp cx.N tm1 = some tm2 := by rfl) (h4 : DX k st = some st2 := by rfl) : FR P cx k T Q (.panic v) st nb :=
 ⟨R', tm1, tm2, st2, h1, h2, h3, h4, h⟩
theorem AT {x : Operand} {xs : Array Operand} {tys : Array TypeId} {ty : TypeId} {pos : String} {af : Array Edge} {gd : Option (Nat × Bool)} {vs : List V} {ps : Array Tmp} {assign : Code} {tmO tm0 : List (Nat × V)}
  (hOk : Fu N ps assign body R T)
  (h : ∀ l TI, VW P ⟨N, some l, cx.B, cx.m, none, []⟩ assign ⟨pT ps.toList vs tm0, .y nb none TI tm :: st, nb + 1⟩ (Wa P ⟨N, some l, cx.B, cx.m, none, []⟩ body k R T (OG P cx ops rest t N k nb R T TI Q)))
  (hx : Af ⟨tm, st, nb⟩ x = some (.yl k) := by rfl) (hv : AY ⟨tm, st, nb⟩ xs.toList = some vs := by rfl) (hl : Au k st = some (some R, T, tmO) := by rfl) (hlk : AA N tmO = some (.yl k) := by rfl) (hlo : Hp N tmO = some tm0 := by rfl)
  (hdf : cx.df = [] := by rfl) (hps : ps.toList.length = vs.length := by rfl) (hpb : ps.toList.all (Nat.blt · N) = true := by rfl) (hw : Wd ops tm gd := by first | exact trivial | exact A1 rfl rfl (by with_reducible rfl)) (ht : Nat.blt t cx.N = true := by rfl) :
  VL P cx ops (⟨some t, .call { callee := .value x, args := xs, argTypes := tys }, ty, pos, af, gd⟩ :: rest) ⟨tm, st, nb⟩ Q := Td hdf hx hv hl hOk hlk hlo hps hpb hw ht h
theorem Ap {x : Operand} {f : FuncId} {xs : Array Operand} {tys : Array TypeId} {ty : TypeId} {pos : String} {af : Array Edge} {gd : Option (Nat × Bool)} {v : V} {vs az : List V} {ds' ds : List D} {d d' : D} {c : Bool}
  (hc : VP P f ds (· = if c then .ret d else .panic d')) (k1 : c = true → VL P cx ops rest ⟨(t, .d d) :: tm, st, nb⟩ Q) (k2 : c = false → Q (.panic (.d d')) ⟨tm, st, nb⟩) (hx : Af ⟨tm, st, nb⟩ x = some v := by rfl) (hv : AY ⟨tm, st, nb⟩ xs.toList = some vs := by rfl) (hf : GL v vs = some (f, az) := by rfl) (ha : AD st az ds' := by first | exact Jl rfl | ((repeat' (first | exact HD | exact HE | ((apply FM); rfl))); fail_if_success (focus skip))) (hd : El ds' ds := by ((repeat' (first | exact Dj | with_reducible apply CN | with_reducible exact Ex _ | with_reducible exact Gk _ | infer_instance | with_reducible apply Ez | with_reducible apply Ey | with_reducible apply Gj | with_reducible apply Gl | with_reducible apply BN | assumption | apply BN)); fail_if_success (focus skip))) (hw : Wd ops tm gd := by first | exact trivial | exact A1 rfl rfl (by with_reducible rfl)) (ht : Nat.blt t cx.N = true := by rfl) :
  VL P cx ops (⟨some t, .call { callee := .value x, args := xs, argTypes := tys }, ty, pos, af, gd⟩ :: rest) ⟨tm, st, nb⟩ Q := by
 cases c with
 | true => exact Tg hc hx hv hf ha hd hw ht (k1 rfl)
 | false => exact Th hc hx hv hf ha hd hw ht (k2 rfl)
theorem Aj {x : Operand} {f : FuncId} {xs : Array Operand} {tys : Array TypeId} {ty : TypeId} {pos : String} {af : Array Edge} {gd : Option (Nat × Bool)} {v : V} {vs az : List V} {ds' ds : List D} {d d' : D} {p : Prop} [Decidable p]
  (hc : VP P f ds (· = if decide p then .ret d else .panic d')) (k1 : p → VL P cx ops rest ⟨(t, .d d) :: tm, st, nb⟩ Q) (k2 : ¬ p → Q (.panic (.d d')) ⟨tm, st, nb⟩) (hx : Af ⟨tm, st, nb⟩ x = some v := by rfl) (hv : AY ⟨tm, st, nb⟩ xs.toList = some vs := by rfl) (hf : GL v vs = some (f, az) := by rfl) (ha : AD st az ds' := by first | exact Jl rfl | ((repeat' (first | exact HD | exact HE | ((apply FM); rfl))); fail_if_success (focus skip))) (hd : El ds' ds := by ((repeat' (first | exact Dj | with_reducible apply CN | with_reducible exact Ex _ | with_reducible exact Gk _ | infer_instance | with_reducible apply Ez | with_reducible apply Ey | with_reducible apply Gj | with_reducible apply Gl | with_reducible apply BN | assumption | apply BN)); fail_if_success (focus skip))) (hw : Wd ops tm gd := by first | exact trivial | exact A1 rfl rfl (by with_reducible rfl)) (ht : Nat.blt t cx.N = true := by rfl) :
  VL P cx ops (⟨some t, .call { callee := .value x, args := xs, argTypes := tys }, ty, pos, af, gd⟩ :: rest) ⟨tm, st, nb⟩ Q := Ap hc (fun h => k1 (of_decide_eq_true h)) (fun h => k2 (of_decide_eq_false h)) hx hv hf ha hd hw ht
def AaS (m : Nat) (r : RC) (st : List E) (nb : Nat) (r' : RC) (st' : List E) (nb' : Nat) : Prop :=
 ∀ B g w e, AC B g w st → CG B nb g w → Hb B g w r e → ∃ g', Ei False m g w g' w ∧ AC B g' w st' ∧ CG B nb' g' w ∧ Hb B g' w r' e ∧ m ≤ nb'
def Gy (m : Nat) (r' : RC) (st' : List E) (nb' : Nat) : RC → List E → Nat → Prop := fun r s n => AaS m r s n r' st' nb'
theorem Q5 {B n m nb : Nat} {ρ : Ren} {g : G} {w : World} (_ : CG B nb g w) (hρ : GU m ρ = true) (hmn : m ≤ n) : Ei False m g w (g.ren ρ n) w := by
 obtain ⟨_, hk⟩ := Ir hρ
 have hno : ∀ {k}, k < m → Eb k ρ = none := fun {k} hlt => by
  cases hq : Eb k ρ with
  | none => rfl
  | some p => have := (hk hq).1; omega
 refine ⟨rfl, rfl, rfl, Nat.le_refl _, fun hk e => ?_, fun hk e => ?_, fun b _ hp => ⟨C9 hp, rfl⟩, fun _ h => h, fun _ _ _ => rfl, .refl, fun _ _ _ => LT _⟩
 ·simp only [G.ren]; rw [if_pos (by omega)]; exact e
 ·simp only [G.ren]; rw [if_pos (by omega), hno hk]; exact e
theorem Ou {m nb' : Nat} {v v' : V} {st' : List E} (ρ : Ren) (hv : KF nb' ρ st v' v) (h2 : Jo nb' ρ st st') (hρ : GU m ρ = true) (h3 : Nat.ble m nb' = true) : AaS m (.ret v) st nb (.ret v') st' nb' := fun B g w e hs hi hr => by
 obtain ⟨u, rfl, hu⟩ := hr
 have hm := Nat.le_of_ble_eq_true h3
 exact ⟨g.ren ρ nb', Q5 hi hρ hm, ⟨fun hc => DW hs h2 hc, fun hr => Gg hs h2 hr, fun hl => Fh hs h2 hl⟩, Np hi hρ, ⟨u, rfl, hv _ _ _ _ hs hu⟩, hm⟩
theorem TO {m nb' : Nat} {v v' : V} {st' : List E} (ρ : Ren) (hv : KF nb' ρ st v' v) (h2 : Jo nb' ρ st st') (hρ : GU m ρ = true) (h3 : Nat.ble m nb' = true) : AaS m (.panic v) st nb (.panic v') st' nb' := fun B g w e hs hi hr => by
 obtain ⟨u, rfl, hu⟩ := hr
 have hm := Nat.le_of_ble_eq_true h3
 exact ⟨g.ren ρ nb', Q5 hi hρ hm, ⟨fun hc => DW hs h2 hc, fun hr => Gg hs h2 hr, fun hl => Fh hs h2 hl⟩, Np hi hρ, ⟨u, rfl, hv _ _ _ _ hs hu⟩, hm⟩
theorem A8 {m nb' : Nat} {v v' : V} {st' : List E} (ρ : Ren) (hv : KF nb' ρ st v' v := by ((repeat' (first | exact trivial | exact DD | refine CX ?_ ?_ | exact DG | exact EW | exact DB rfl | exact DA rfl rfl | exact CW rfl rfl | refine DH ?_ | refine Dz ?_ | refine DF ?_ | refine EU ?_ ?_ | exact ET | exact DC | exact EV | exact ES rfl | exact ER rfl | refine ⟨⟨rfl, _, rfl, ?_⟩, ?_⟩ | exact GT rfl (by infer_instance) | refine ⟨⟨_, rfl, ?_⟩, ?_⟩ | refine ⟨⟨rfl, .inl ⟨rfl, _, _, rfl, rfl⟩⟩, ?_⟩ | refine ⟨⟨rfl, .inr ⟨rfl, rfl, rfl⟩⟩, ?_⟩ | refine ⟨⟨rfl, _, rfl, ?_⟩, ?_⟩ | refine ⟨?_, ?_⟩)); fail_if_success (focus skip))) (h2 : Jo nb' ρ st st' := by ((repeat' (first | exact trivial | exact DD | refine CX ?_ ?_ | exact DG | exact EW | exact DB rfl | exact DA rfl rfl | exact CW rfl rfl | refine DH ?_ | refine Dz ?_ | refine DF ?_ | refine EU ?_ ?_ | exact ET | exact DC | exact EV | exact ES rfl | exact ER rfl | refine ⟨⟨rfl, _, rfl, ?_⟩, ?_⟩ | exact GT rfl (by infer_instance) | refine ⟨⟨_, rfl, ?_⟩, ?_⟩ | refine ⟨⟨rfl, .inl ⟨rfl, _, _, rfl, rfl⟩⟩, ?_⟩ | refine ⟨⟨rfl, .inr ⟨rfl, rfl, rfl⟩⟩, ?_⟩ | refine ⟨⟨rfl, _, rfl, ?_⟩, ?_⟩ | refine ⟨?_, ?_⟩)); fail_if_success (focus skip))) (hρ : GU m ρ = true := by first | rfl | decide) (h3 : Nat.ble m nb' = true := by rfl) : Gy m (.ret v') st' nb' (.ret v) st nb := Ou ρ hv h2 hρ h3
theorem Ay {m nb' : Nat} {v v' : V} {st' : List E} (ρ : Ren) (hv : KF nb' ρ st v' v := by ((repeat' (first | exact trivial | exact DD | refine CX ?_ ?_ | exact DG | exact EW | exact DB rfl | exact DA rfl rfl | exact CW rfl rfl | refine DH ?_ | refine Dz ?_ | refine DF ?_ | refine EU ?_ ?_ | exact ET | exact DC | exact EV | exact ES rfl | exact ER rfl | refine ⟨⟨rfl, _, rfl, ?_⟩, ?_⟩ | exact GT rfl (by infer_instance) | refine ⟨⟨_, rfl, ?_⟩, ?_⟩ | refine ⟨⟨rfl, .inl ⟨rfl, _, _, rfl, rfl⟩⟩, ?_⟩ | refine ⟨⟨rfl, .inr ⟨rfl, rfl, rfl⟩⟩, ?_⟩ | refine ⟨⟨rfl, _, rfl, ?_⟩, ?_⟩ | refine ⟨?_, ?_⟩)); fail_if_success (focus skip))) (h2 : Jo nb' ρ st st' := by ((repeat' (first | exact trivial | exact DD | refine CX ?_ ?_ | exact DG | exact EW | exact DB rfl | exact DA rfl rfl | exact CW rfl rfl | refine DH ?_ | refine Dz ?_ | refine DF ?_ | refine EU ?_ ?_ | exact ET | exact DC | exact EV | exact ES rfl | exact ER rfl | refine ⟨⟨rfl, _, rfl, ?_⟩, ?_⟩ | exact GT rfl (by infer_instance) | refine ⟨⟨_, rfl, ?_⟩, ?_⟩ | refine ⟨⟨rfl, .inl ⟨rfl, _, _, rfl, rfl⟩⟩, ?_⟩ | refine ⟨⟨rfl, .inr ⟨rfl, rfl, rfl⟩⟩, ?_⟩ | refine ⟨⟨rfl, _, rfl, ?_⟩, ?_⟩ | refine ⟨?_, ?_⟩)); fail_if_success (focus skip))) (hρ : GU m ρ = true := by first | rfl | decide) (h3 : Nat.ble m nb' = true := by rfl) : Gy m (.panic v') st' nb' (.panic v) st nb := TO ρ hv h2 hρ h3
theorem Zg {P : Program} {f : FuncId} {fn : Func} {c : Code} {m : Nat} {vs : List V} {st : List E} {nb nb' : Nat} {r : RC} {st' : List E} (hf : P.funcs[f]? = some fn) (hb : fn.body = some c) {N : Nat} (hN : fn.ntmps = N) {rs : List ResultVar} (hrs0 : fn.results = rs.toArray)
  (h : ∀ B M, VW P ⟨N, none, B, m, some M, []⟩ c ⟨CF 0 vs, st, nb⟩ (Hl P rs (mK m (Gy m r st' nb')))) (hle : Nat.ble vs.length N = true := by rfl) (hname : (fn.name == "runtime.NumGoroutine") = false := by kernel_rfl) : Dk P f m vs st nb r st' nb' := fun B => by
 have hv := Pz (B := B) hf hb hN hrs0 (h B) hle hname
 refine ⟨hv.1, fun g w us h1 h2 h3 => (hv.2 g w us h1 h2 h3).mono ?_⟩
 rintro e w' ⟨g1, st1, nb1, r1, k1, k2, k3, k4, k5, k6⟩
 obtain ⟨g2, q1, q2, q3, q4, q5⟩ := k5 B g1 w' e k2 k3 k4
 exact ⟨g2, st', nb', r, k1.trans2 q1, q2, q3, q4, ⟨rfl, rfl, rfl⟩, q5⟩
def D7 (ks : List Nat) : List E → Option (List E)
 | [] => some []
 | .c k off vs :: r => (match D7 ks r with
  | some q => (match I2 k ks with
   | true => some q
   | false => some (.c k off vs :: q))
  | none => none)
 | .y k lp T tm :: r => (match D7 ks r with
  | some q => some (.y k lp T tm :: q)
  | none => none)
 | .r o nw k ver e sz l :: r => (match D7 ks r with
  | some q => (match I2 k ks with
   | true => some q
   | false => some (.r o nw k ver e sz l :: q))
  | none => none)
theorem EE {ks : List Nat} {k : Nat} (hm : I2 k ks = true) : ∀ {st q : List E}, D7 ks st = some q → Az k q = none ∧ ∀ o, Aq k o q = none
 | [], q, h => by simp only [D7, Option.some.injEq] at h; subst h; exact ⟨rfl, fun _ => rfl⟩
 | .c k' .. :: r, q, h => by
  simp only [D7] at h
  split at h
  ·rename_i q' hq
   have ih := EE hm hq
   split at h
   ·cases h; exact ih
   ·rename_i hk2
    cases h
    simp only [Az]
    refine ⟨ih.1, fun o => ?_⟩
    simp only [Aq]
    split
    ·rename_i hb
     have := Nat.eq_of_beq_eq_true hb
     subst this
     rw [hm] at hk2; cases hk2
    ·exact ih.2 o
  ·cases h
 | .y .. :: r, q, h => by
  simp only [D7] at h
  split at h
  ·rename_i q' hq; cases h; simp only [Az, Aq]; exact EE hm hq
  ·cases h
 | .r .. :: r, q, h => by
  simp only [D7] at h
  split at h
  ·rename_i q' hq
   have ih := EE hm hq
   split at h
   ·cases h; exact ih
   ·rename_i hk2
    cases h
    simp only [Az, Aq]
    refine ⟨?_, ih.2⟩
    split
    ·rename_i hb
     have := Nat.eq_of_beq_eq_true hb
     subst this
     rw [hm] at hk2; cases hk2
    ·exact ih.1
  ·cases h
theorem FE {ks : List Nat} : ∀ {st q : List E}, D7 ks st = some q → (∀ i o x, Aq i o q = some x → Aq i o st = some x) ∧ (∀ i x, Az i q = some x → Az i st = some x) ∧ ∀ i, Au i q = Au i st
 | [], q, h => by simp only [D7, Option.some.injEq] at h; subst h; exact ⟨fun _ _ _ h => h, fun _ _ h => h, fun _ => rfl⟩
 | .c k off vs :: r, q, h => by
  simp only [D7] at h
  split at h
  ·rename_i q' hq
   obtain ⟨h1, h2, h3⟩ := FE hq
   split at h
   ·rename_i hm
    cases h
    refine ⟨fun i o x hx => ?_, fun i x hx => by simp only [Az]; exact h2 i x hx, fun i => by simp only [Au]; exact h3 i⟩
    simp only [Aq]
    split
    ·rename_i hb
     have := Nat.eq_of_beq_eq_true hb
     subst this
     rw [(EE hm hq).2] at hx; cases hx
    ·exact h1 i o x hx
   ·cases h
    refine ⟨fun i o x hx => ?_, fun i x hx => by simp only [Az] at hx ⊢; exact h2 i x hx, fun i => by simp only [Au]; exact h3 i⟩
    simp only [Aq] at hx ⊢
    split
    ·rename_i hb
     simp only [hb] at hx
     split
     ·rename_i ho
      simp only [ho] at hx
      split
      ·rename_i v' hv'; simp only [hv'] at hx; exact hx
      ·rename_i hv'; simp only [hv'] at hx; exact h1 _ _ _ hx
     ·rename_i ho
      simp only [ho] at hx
      exact h1 _ _ _ hx
    ·rename_i hb; simp only [hb] at hx; exact h1 _ _ _ hx
  ·cases h
 | .y .. :: r, q, h => by
  simp only [D7] at h
  split at h
  ·rename_i q' hq; cases h; obtain ⟨h1, h2, h3⟩ := FE hq
   exact ⟨fun i o x hx => by simp only [Aq] at hx ⊢; exact h1 i o x hx, fun i x hx => by simp only [Az] at hx ⊢; exact h2 i x hx, fun i => by simp only [Au, h3]⟩
  ·cases h
 | .r o nw k ver e sz l :: r, q, h => by
  simp only [D7] at h
  split at h
  ·rename_i q' hq
   obtain ⟨h1, h2, h3⟩ := FE hq
   split at h
   ·rename_i hm
    cases h
    refine ⟨fun i o x hx => by simp only [Aq]; exact h1 i o x hx, fun i x hx => ?_, fun i => by simp only [Au]; exact h3 i⟩
    simp only [Az]
    split
    ·rename_i hb
     have := Nat.eq_of_beq_eq_true hb
     subst this
     rw [(EE hm hq).1] at hx; cases hx
    ·exact h2 i x hx
   ·cases h
    refine ⟨fun i o x hx => by simp only [Aq] at hx ⊢; exact h1 i o x hx, fun i x hx => ?_, fun i => by simp only [Au]; exact h3 i⟩
    simp only [Az] at hx ⊢
    split
    ·rename_i hb; simp only [hb] at hx; exact hx
    ·rename_i hb; simp only [hb] at hx; exact h2 i x hx
  ·cases h
theorem Bw {l : List Oper} {id n : Nat} {hd tl : List Oper} {AO : List E} (ks : List Nat) (h : VD P cx l tm AO st nb (X6 hd) Q hd tl 0 [] tm AO nb) (hp : D7 ks st = some AO := by rfl) (hk : Wf P l n hd tl := by
  first | exact .mk (n := 1) (by decide +kernel) (by kernel_rfl) rfl | exact .mk (n := 2) (by decide +kernel) (by kernel_rfl) rfl | exact .mk (n := 3) (by decide +kernel) (by kernel_rfl) rfl | exact .mk (n := 4) (by decide +kernel) (by kernel_rfl) rfl | exact .mk (n := 5) (by decide +kernel) (by kernel_rfl) rfl | exact .mk (n := 6) (by decide +kernel) (by kernel_rfl) rfl | exact .mk (n := 7) (by decide +kernel) (by kernel_rfl) rfl | exact .mk (n := 8) (by decide +kernel) (by kernel_rfl) rfl | exact .mk (n := 9) (by decide +kernel) (by kernel_rfl) rfl | exact .mk (n := 10) (by decide +kernel) (by kernel_rfl) rfl | exact .mk (n := 11) (by decide +kernel) (by kernel_rfl) rfl | exact .mk (n := 12) (by decide +kernel) (by kernel_rfl) rfl | exact .mk (n := 13) (by decide +kernel) (by kernel_rfl) rfl | exact .mk (n := 14) (by decide +kernel) (by kernel_rfl) rfl | exact .mk (n := 15) (by decide +kernel) (by kernel_rfl) rfl | exact .mk (n := 16) (by decide +kernel) (by kernel_rfl) rfl | exact .mk (n := 17) (by decide +kernel) (by kernel_rfl) rfl | exact .mk (n := 18) (by decide +kernel) (by kernel_rfl) rfl | exact .mk (n := 19) (by decide +kernel) (by kernel_rfl) rfl | exact .mk (n := 20) (by decide +kernel) (by kernel_rfl) rfl | exact .mk (n := 21) (by decide +kernel) (by kernel_rfl) rfl | exact .mk (n := 22) (by decide +kernel) (by kernel_rfl) rfl | exact .mk (n := 23) (by decide +kernel) (by kernel_rfl) rfl | exact .mk (n := 24) (by decide +kernel) (by kernel_rfl) rfl | exact .mk (n := 25) (by decide +kernel) (by kernel_rfl) rfl | exact .mk (n := 26) (by decide +kernel) (by kernel_rfl) rfl | exact .mk (n := 27) (by decide +kernel) (by kernel_rfl) rfl | exact .mk (n := 28) (by decide +kernel) (by kernel_rfl) rfl | exact .mk (n := 29) (by decide +kernel) (by kernel_rfl) rfl | exact .mk (n := 30) (by decide +kernel) (by kernel_rfl) rfl | exact .mk (n := 31) (by decide +kernel) (by kernel_rfl) rfl | exact .mk (n := 32) (by decide +kernel) (by kernel_rfl) rfl | exact .mk (n := 33) (by decide +kernel) (by kernel_rfl) rfl | exact .mk (n := 34) (by decide +kernel) (by kernel_rfl) rfl | exact .mk (n := 35) (by decide +kernel) (by kernel_rfl) rfl | exact .mk (n := 36) (by decide +kernel) (by kernel_rfl) rfl | exact .mk (n := 37) (by decide +kernel) (by kernel_rfl) rfl | exact .mk (n := 38) (by decide +kernel) (by kernel_rfl) rfl | exact .mk (n := 39) (by decide +kernel) (by kernel_rfl) rfl | exact .mk (n := 40) (by decide +kernel) (by kernel_rfl) rfl) : VW P cx (.region id l.toArray true) ⟨tm, st, nb⟩ Q :=
 Oc n (fun _ _ _ h => let ⟨h1, h2, h3⟩ := FE hp; ⟨fun hc => h.cell (h1 _ _ _ hc), fun hr => h.row (h2 _ _ hr), fun hl => h.loop (by rw [← h3]; exact hl)⟩) hk.hB hk.hm hk.hsp h
theorem YW {stO : List E} {k off : Nat} {vs : List V} : ∀ (n : Nat), AM k off stO n = some vs → EOk stO k (.c k off vs) := fun n h => by
 refine .inr ⟨off, vs, rfl, ?_⟩
 induction n generalizing off vs with
 | zero => simp only [AM, Option.some.injEq] at h; subst h; simp
 | succ n ih =>
  simp only [AM] at h
  split at h
  ·cases h
  ·rename_i v hv
   split at h
   ·cases h
   ·rename_i ys hys
    cases h
    intro i x hx
    cases i with
    | zero => simp at hx; subst hx; exact hv
    | succ i => have := ih hys i x (by simpa using hx); rwa [show off + 1 + i = off + (i + 1) by omega] at this
theorem G9 {l : List Oper} {tm0 : List (Nat × V)} {AO stO : List E} {nb0 : Nat} {ds : List Nat} {hd tl : List Oper} {i : Nat} {acc : List Ac} {t' ty : TypeId} {x y : Operand} {k' off sz : Nat} {ag : Bool} {z : List Value} {v : V} {vs old : List V} {pos : String} {af : Array Edge} {vis : List E} {tmI : List (Nat × V)} [hT : BE P t' ag (sz + 1) z]
  (kk : VD P cx l tm0 AO stO nb0 ds Q hd tl (i + 1) (⟨i, 1000000 + i, .d .any, [.c k' off vs], vis, none, some (k', .c k' off old), [.c k' off vs], none⟩ :: acc) ((1000000 + i, .d .any) :: tm) (.c k' off vs :: st) nb)
  (hsel : ED af.toList ds acc tm0 (Ct (Op.store t' x y).operands.toList) = some tmI := by rfl) (hvis : E3 acc af.toList = some vis := by rfl)
  (hx : ∀ nb, Af ⟨tmI, vis ++ AO, nb⟩ x = some (.ptr k' off) := by intro _; rfl) (hy : ∀ nb, Af ⟨tmI, vis ++ AO, nb⟩ y = some v := by intro _; rfl) (hv : Bt v = some vs := by rfl) (hl : vs.length = sz + 1 := by rfl) (h1 : Ca vs = true := by rfl)
  (hold : AM k' off stO (sz + 1) = some old := by rfl) (hol : old.length = sz + 1 := by rfl)
  (hnk : Dt k' (vis ++ AO) = true := by rfl) (hk : Nat.blt k' nb0 = true := by rfl) (hn0 : Dt k' AO = true := by rfl) (hnc : XR k' acc = true := by rfl) (hds : C5 (1000000 + i) ds = true := by rfl) (hfa : CM (1000000 + i) acc = none := by rfl) :
  VD P cx l tm0 AO stO nb0 ds Q (⟨none, .store t' x y, ty, pos, af, none⟩ :: hd) tl i acc tm st nb :=
 KM kk (.inr ⟨rfl, rfl⟩) hds hfa hsel hvis trivial (RM hx hy hv hl h1 hol hnk) hn0 HT HT (.inl rfl) (.inl ⟨rfl, ⟨Nat.le_of_ble_eq_true hk, YW (sz + 1) hold⟩, hnc⟩)
theorem Zn {l : List Oper} {tm0 : List (Nat × V)} {AO stO : List E} {nb0 : Nat} {ds : List Nat} {hd tl : List Oper} {i : Nat} {acc : List Ac} {d : Tmp} {t ty el : TypeId} {x y : Operand} {k ver sz by_ : Nat} {l1 l2 : List (List D)} {nw : Bool} {v2 : V} {pos : String} {af : Array Edge} {vis : List E} {tmI : List (Nat × V)} {gd : Option (Nat × Bool)} [hE : EQ P t el sz by_]
  (kk : VD P cx l tm0 AO stO nb0 ds Q hd tl (i + 1) (⟨i, d, .row k (ver + 1), [.r true nw k (ver + 1) el sz (l1 ++ l2)], vis, none, some (k, .r true nw k ver el sz l1), [.r true nw k (ver + 1) el sz (l1 ++ l2)], none⟩ :: acc) ((d, .row k (ver + 1)) :: tm) (.r true nw k (ver + 1) el sz (l1 ++ l2) :: st) nb) (_ : K4 d hd = false := by rfl)
  (hsel : ED af.toList ds acc tm0 (gT l ⟨some d, .call { callee := .builtin .append, args := #[x, y], argTypes := #[t, t] }, ty, pos, af, gd⟩ ++ Ct (Op.call { callee := .builtin .append, args := #[x, y], argTypes := #[t, t] }).operands.toList) = some tmI := by rfl) (hvis : E3 acc af.toList = some vis := by rfl) (hw : Wd l tmI gd := by first | exact trivial | exact A1 rfl rfl (by with_reducible rfl))
  (hx : ∀ nb, Af ⟨tmI, vis ++ AO, nb⟩ x = some (.row k ver) := by intro _; rfl) (hr : Az k stO = some (true, nw, ver, el, sz, l1) := by rfl) (hk : Nat.blt k nb0 = true := by rfl) (hnc : XR k acc = true := by rfl) (hy : ∀ nb, Af ⟨tmI, vis ++ AO, nb⟩ y = some v2 := by intro _; rfl)
  (hsrc : Ic (vis ++ AO) sz v2 l2 := by first | exact .row rfl | exact .nil | exact .sl (by first | assumption | (simp; fail_if_success (focus skip)))) (hb : (l1.length + l2.length) * by_ ≤ 140737488355328 := by first | omega | (simp; omega)) (h0 : 0 < by_ := by decide)
  (hnk : Dt k (vis ++ AO) = true := by rfl) (hn0 : Dt k AO = true := by rfl) (hd' : Nat.blt d cx.N = true := by rfl) (hds : C5 d ds = true := by rfl) (hfa : CM d acc = none := by rfl) :
  VD P cx l tm0 AO stO nb0 ds Q (⟨some d, .call { callee := .builtin .append, args := #[x, y], argTypes := #[t, t] }, ty, pos, af, gd⟩ :: hd) tl i acc tm st nb :=
 KM kk (.inl ⟨rfl, Nat.le_of_ble_eq_true hd'⟩) hds hfa hsel hvis hw (RN hx hy hsrc hnk hb h0) hn0 Ho Ho (.inl rfl) (.inl ⟨rfl, ⟨Nat.le_of_ble_eq_true hk, .inl ⟨nw, ver, el, sz, l1, rfl, hr⟩⟩, hnc⟩)
theorem WH {l : List Oper} {tm0 : List (Nat × V)} {AO stO : List E} {nb0 : Nat} {ds : List Nat} {hd tl : List Oper} {i : Nat} {acc : List Ac} {d : Tmp} {t ty el : TypeId} {x y : Operand} {k ver sz by_ : Nat} {l1 l2 : List (List D)} {nw : Bool} {v2 : V} {pos : String} {af : Array Edge} {vis : List E} {tmI : List (Nat × V)} {gd : Option (Nat × Bool)} [hE : EQ P t el sz by_]
  (kk : VD P cx l tm0 AO stO nb0 ds Q hd tl (i + 1) (⟨i, d, .row k (ver + 1), [], vis, none, some (k, .r true nw k ver el sz l1), [.r true nw k (ver + 1) el sz (l1 ++ l2)], none⟩ :: acc) ((d, .row k (ver + 1)) :: tm) (st) nb) (_ : K4 d hd = true := by rfl)
  (hsel : ED af.toList ds acc tm0 (gT l ⟨some d, .call { callee := .builtin .append, args := #[x, y], argTypes := #[t, t] }, ty, pos, af, gd⟩ ++ Ct (Op.call { callee := .builtin .append, args := #[x, y], argTypes := #[t, t] }).operands.toList) = some tmI := by rfl) (hvis : E3 acc af.toList = some vis := by rfl) (hw : Wd l tmI gd := by first | exact trivial | exact A1 rfl rfl (by with_reducible rfl))
  (hx : ∀ nb, Af ⟨tmI, vis ++ AO, nb⟩ x = some (.row k ver) := by intro _; rfl) (hr : Az k stO = some (true, nw, ver, el, sz, l1) := by rfl) (hk : Nat.blt k nb0 = true := by rfl) (hnc : XR k acc = true := by rfl) (hy : ∀ nb, Af ⟨tmI, vis ++ AO, nb⟩ y = some v2 := by intro _; rfl)
  (hsrc : Ic (vis ++ AO) sz v2 l2 := by first | exact .row rfl | exact .nil | exact .sl (by first | assumption | (simp; fail_if_success (focus skip)))) (hb : (l1.length + l2.length) * by_ ≤ 140737488355328 := by first | omega | (simp; omega)) (h0 : 0 < by_ := by decide)
  (hnk : Dt k (vis ++ AO) = true := by rfl) (hn0 : Dt k AO = true := by rfl) (hd' : Nat.blt d cx.N = true := by rfl) (hds : C5 d ds = true := by rfl) (hfa : CM d acc = none := by rfl) :
  VD P cx l tm0 AO stO nb0 ds Q (⟨some d, .call { callee := .builtin .append, args := #[x, y], argTypes := #[t, t] }, ty, pos, af, gd⟩ :: hd) tl i acc tm st nb :=
 KM kk (.inl ⟨rfl, Nat.le_of_ble_eq_true hd'⟩) hds hfa hsel hvis hw (RN hx hy hsrc hnk hb h0) hn0 Ho Ho (.inr rfl) (.inl ⟨rfl, ⟨Nat.le_of_ble_eq_true hk, .inl ⟨nw, ver, el, sz, l1, rfl, hr⟩⟩, hnc⟩)
theorem WG {l : List Oper} {tm0 : List (Nat × V)} {AO stO : List E} {nb0 : Nat} {ds : List Nat} {hd tl : List Oper} {i : Nat} {acc : List Ac} {d : Tmp} {t ty el : TypeId} {x y : Operand} {k ver sz by_ : Nat} {l1 l2 : List (List D)} {nw : Bool} {v2 : V} {pos : String} {af : Array Edge} {vis : List E} {tmI : List (Nat × V)} {gd : Option (Nat × Bool)} {zi zd : Nat} {zv : V} {zs : List E} {zn : Option Nat} {zc : Option (Nat × E)} {zr : Option Nat} [hE : EQ P t el sz by_]
  (kk : VD P cx l tm0 AO stO nb0 ds Q hd tl (i + 1) (⟨i, d, .row k (ver + 1), [.r true nw k (ver + 1) el sz (l1 ++ l2)], vis, none, some (k, .r true nw k ver el sz l1), [.r true nw k (ver + 1) el sz (l1 ++ l2)], some zi⟩ :: acc) ((d, .row k (ver + 1)) :: tm) (.r true nw k (ver + 1) el sz (l1 ++ l2) :: st) nb) (_ : K4 d hd = false := by rfl)
  (hsel : ED af.toList ds acc tm0 (gT l ⟨some d, .call { callee := .builtin .append, args := #[x, y], argTypes := #[t, t] }, ty, pos, af, gd⟩ ++ Ct (Op.call { callee := .builtin .append, args := #[x, y], argTypes := #[t, t] }).operands.toList) = some tmI := by rfl) (hvis : E3 acc af.toList = some vis := by rfl) (hw : Wd l tmI gd := by first | exact trivial | exact A1 rfl rfl (by with_reducible rfl))
  (hx : ∀ nb, Af ⟨tmI, vis ++ AO, nb⟩ x = some (.row k ver) := by intro _; rfl) (hz : I4 k acc = some ⟨zi, zd, zv, [], zs, zn, zc, [.r true nw k ver el sz l1], zr⟩ := by rfl) (hzm : E8 zi af.toList = true := by rfl) (hy : ∀ nb, Af ⟨tmI, vis ++ AO, nb⟩ y = some v2 := by intro _; rfl)
  (hsrc : Ic (vis ++ AO) sz v2 l2 := by first | exact .row rfl | exact .nil | exact .sl (by first | assumption | (simp; fail_if_success (focus skip)))) (hb : (l1.length + l2.length) * by_ ≤ 140737488355328 := by first | omega | (simp; omega)) (h0 : 0 < by_ := by decide)
  (hnk : Dt k (vis ++ AO) = true := by rfl) (hn0 : Dt k AO = true := by rfl) (hd' : Nat.blt d cx.N = true := by rfl) (hds : C5 d ds = true := by rfl) (hfa : CM d acc = none := by rfl) :
  VD P cx l tm0 AO stO nb0 ds Q (⟨some d, .call { callee := .builtin .append, args := #[x, y], argTypes := #[t, t] }, ty, pos, af, gd⟩ :: hd) tl i acc tm st nb :=
 KM kk (.inl ⟨rfl, Nat.le_of_ble_eq_true hd'⟩) hds hfa hsel hvis hw (RN hx hy hsrc hnk hb h0) hn0 Ho Ho (.inl rfl) (.inr ⟨_, hz, rfl, rfl, rfl, hzm⟩)
theorem Tp {l : List Oper} {tm0 : List (Nat × V)} {AO stO : List E} {nb0 : Nat} {ds : List Nat} {hd tl : List Oper} {i : Nat} {acc : List Ac} {d : Tmp} {t ty el : TypeId} {x y : Operand} {k ver sz by_ : Nat} {l1 l2 : List (List D)} {nw : Bool} {v2 : V} {pos : String} {af : Array Edge} {vis : List E} {tmI : List (Nat × V)} {gd : Option (Nat × Bool)} {zi zd : Nat} {zv : V} {zs : List E} {zn : Option Nat} {zc : Option (Nat × E)} {zr : Option Nat} [hE : EQ P t el sz by_]
  (kk : VD P cx l tm0 AO stO nb0 ds Q hd tl (i + 1) (⟨i, d, .row k (ver + 1), [], vis, none, some (k, .r true nw k ver el sz l1), [.r true nw k (ver + 1) el sz (l1 ++ l2)], some zi⟩ :: acc) ((d, .row k (ver + 1)) :: tm) (st) nb) (_ : K4 d hd = true := by rfl)
  (hsel : ED af.toList ds acc tm0 (gT l ⟨some d, .call { callee := .builtin .append, args := #[x, y], argTypes := #[t, t] }, ty, pos, af, gd⟩ ++ Ct (Op.call { callee := .builtin .append, args := #[x, y], argTypes := #[t, t] }).operands.toList) = some tmI := by rfl) (hvis : E3 acc af.toList = some vis := by rfl) (hw : Wd l tmI gd := by first | exact trivial | exact A1 rfl rfl (by with_reducible rfl))
  (hx : ∀ nb, Af ⟨tmI, vis ++ AO, nb⟩ x = some (.row k ver) := by intro _; rfl) (hz : I4 k acc = some ⟨zi, zd, zv, [], zs, zn, zc, [.r true nw k ver el sz l1], zr⟩ := by rfl) (hzm : E8 zi af.toList = true := by rfl) (hy : ∀ nb, Af ⟨tmI, vis ++ AO, nb⟩ y = some v2 := by intro _; rfl)
  (hsrc : Ic (vis ++ AO) sz v2 l2 := by first | exact .row rfl | exact .nil | exact .sl (by first | assumption | (simp; fail_if_success (focus skip)))) (hb : (l1.length + l2.length) * by_ ≤ 140737488355328 := by first | omega | (simp; omega)) (h0 : 0 < by_ := by decide)
  (hnk : Dt k (vis ++ AO) = true := by rfl) (hn0 : Dt k AO = true := by rfl) (hd' : Nat.blt d cx.N = true := by rfl) (hds : C5 d ds = true := by rfl) (hfa : CM d acc = none := by rfl) :
  VD P cx l tm0 AO stO nb0 ds Q (⟨some d, .call { callee := .builtin .append, args := #[x, y], argTypes := #[t, t] }, ty, pos, af, gd⟩ :: hd) tl i acc tm st nb :=
 KM kk (.inl ⟨rfl, Nat.le_of_ble_eq_true hd'⟩) hds hfa hsel hvis hw (RN hx hy hsrc hnk hb h0) hn0 Ho Ho (.inr rfl) (.inr ⟨_, hz, rfl, rfl, rfl, hzm⟩)
end

end Go.Proofs.YtbgcjnfhadhjeaaGreat