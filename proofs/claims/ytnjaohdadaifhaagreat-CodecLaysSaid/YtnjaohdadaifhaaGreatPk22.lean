/- Walks by data and names, part 22: Walks in short, 2: contracts by name, ranges over functions. -/
import Derived.Test.YtnjaohdadaifhaaGreatPk21
namespace Go.Proofs.YtnjaohdadaifhaaGreat
set_option maxRecDepth 20000
open Go.RowKit
class DE (x y : D) : Prop where
  le : ∀ B U w u, drep B U w x u → drep B U w y u
class DEs (x y : List D) : Prop where
  le : ∀ B U w u, dreps B U w x u → dreps B U w y u
instance de_refl (x : D) : DE x x := ⟨fun _ _ _ _ h => h⟩
instance de_nil {c f : Bool} : DE (.lit (.slice none 0 0)) (.sl c f []) := ⟨fun B U w u h => dle_nil c f B U w u h⟩
instance de_sl {c f : Bool} {l : List (List D)} : DE (.sl c f l) (.sl false false l) := ⟨dle_sl c f l⟩
instance de_slf {c f : Bool} {l : List (List D)} : DE (.sl c f l) (.sl false f l) := ⟨dle_slf c f l⟩
instance de_any {x : D} : DE x .any := ⟨fun _ _ _ _ _ => by simp only [drep]⟩
instance des_nil : DEs [] [] := ⟨fun _ _ _ _ h => h⟩
instance des_cons {x y : D} {xs ys : List D} [h : DE x y] [hs : DEs xs ys] : DEs (x :: xs) (y :: ys) := ⟨fun B U w u k => by
  simp only [dreps] at k ⊢
  obtain ⟨z, zs, e, k1, k2⟩ := k
  exact ⟨z, zs, e, h.le _ _ _ _ k1, hs.le _ _ _ _ k2⟩⟩
instance de_agg {xs ys : List D} [hs : DEs xs ys] : DE (.agg xs) (.agg ys) := ⟨fun B U w u k => by
  simp only [drep] at k ⊢
  obtain ⟨cs, e, k⟩ := k
  exact ⟨cs, e, hs.le _ _ _ _ k⟩⟩
instance de_tup {xs ys : List D} [hs : DEs xs ys] : DE (.tup xs) (.tup ys) := ⟨fun B U w u k => by
  simp only [drep] at k ⊢
  obtain ⟨cs, e, k⟩ := k
  exact ⟨cs, e, hs.le _ _ _ _ k⟩⟩
def leR : R → R → Prop
  | .ret d, .ret d' => DE d d'
  | .own _ _ l, .ret d' => DE (.sl false true l) d'
  | .own e sz l, .own e' sz' l' => e = e' ∧ sz = sz' ∧ l = l'
  | .panic d, .panic d' => DE d d'
  | _, _ => False
theorem rrel_own {B : Nat} {U : Nat → Prop} {w : World} {en : Ending} {e : TypeId} {sz : Nat} {l : List (List D)} (h : rrel B U w (.own e sz l) en) (hU : ∀ b, B ≤ b → U b) : rrel B U w (.ret (.sl false true l)) en := by
  obtain ⟨u, xs, rfl, k1, k2, k3⟩ := h
  refine ⟨u, rfl, ?_⟩
  have k4 : ∀ b, u.ownBlock = some b → B ≤ b := fun b hb => (k3.lt b hb).1
  exact ownsRow_sl (drepss_mono (Nat.le_refl _) (fun b _ hb => ⟨hb.1, rfl⟩) k1) k2.1 k2.2 (ownsRow_base k3 (Nat.zero_le _)) (fun _ b hb => k4 b hb) fun b hb => hU b (k4 b hb)
theorem VP.le {P : Program} {f : FuncId} {ds : List D} {r' : R} (h : VP P f ds fun r => leR r r') : VP P f ds (· = r') :=
  ⟨h.1, fun U w us hu => (h.2 U w us hu).mono fun en w' ⟨h1, r, h2, h3⟩ => ⟨h1, r', rfl, by
    cases r with
    | ret d => cases r' with
      | ret d' => obtain ⟨u, rfl, k⟩ := h3; exact ⟨u, rfl, DE.le (self := h2) _ _ _ _ k⟩
      | own _ _ _ => exact h2.elim
      | panic _ => exact h2.elim
    | own e sz l => cases r' with
      | ret d' => obtain ⟨u, rfl, k⟩ := rrel_own h3 (fun b hb => .inr hb); exact ⟨u, rfl, DE.le (self := h2) _ _ _ _ k⟩
      | own _ _ _ => obtain ⟨rfl, rfl, rfl⟩ := h2; exact h3
      | panic _ => exact h2.elim
    | panic d => cases r' with
      | ret _ => exact h2.elim
      | own _ _ _ => exact h2.elim
      | panic d' => obtain ⟨u, rfl, k⟩ := h3; exact ⟨u, rfl, DE.le (self := h2) _ _ _ _ k⟩⟩⟩
theorem VP.data {P : Program} {f : FuncId} {ds : List D} {e : TypeId} {sz : Nat} {l : List (List D)} (h : VP P f ds (· = .own e sz l)) : VP P f ds (· = .ret (.sl false true l)) := VP.le (h.mono fun r e => by subst e; exact de_refl _)
section
variable {P : Program} {cx : Cx} {ops rest : List Oper} {t k nbI N : Nat} {R : Loop} {T TI : Array Value} {Q : VE → St → Prop} {tm tm1 tm2 : List (Nat × V)} {st st2 : List E} {nb : Nat} {body : Code}
theorem nx_mkid {m : Nat} {K : RC → List E → Nat → Prop} {r : RC} (h : mK m K r st nb) : mK m K r st nb := h
theorem nx_asgid {K : VE → St → Prop} {e : VE} {s : St} (h : asgK P cx body k R T K e s) : asgK P cx body k R T K e s := h
theorem nx_rndid {e : VE} {s : St} (h : rndK P cx ops rest t N k nbI R T TI Q e s) : rndK P cx ops rest t N k nbI R T TI Q e s := h
theorem nx_rngid {r : RC} (h : rangeK P cx k T Q r st nb) : rangeK P cx k T Q r st nb := h
theorem nx_mk {m : Nat} {K : RC → List E → Nat → Prop} {r : RC} (h : K r st nb) (hm : Nat.ble m nb = true := by rfl) : mK m K r st nb := ⟨h, Nat.le_of_ble_eq_true hm⟩
theorem nx_asg {K : VE → St → Prop} (h : VW P cx body ⟨tm, .y k (some { R with state := .busy }) T tm1 :: st, nb⟩ K) (h1 : loopAt k st = some (some R, T, tm1) := by rfl) (h2 : lookT cx.N tm1 = some (.yl k) := by rfl) : asgK P cx body k R T K .normal ⟨tm, st, nb⟩ := ⟨tm1, h1, h2, h⟩
theorem endN {ps : Array Tmp} {assign : Code} (hOk : LoopOk N ps assign body R T) : ({ R with state := if true then .ready else .done, pending := none } : Loop) = R := by
  have h1 := hOk.state
  have h2 := hOk.pending
  cases R; simp_all
theorem nx_rnd {ps : Array Tmp} {assign : Code} (hOk : LoopOk N ps assign body R T) (h : VL P cx ops rest ⟨(t, .d (.lit (.bool true))) :: tm2, .y k (some R) T tm1 :: st, nb⟩ Q)
    (h1 : loopAt k st = some (some { R with state := .busy }, T, tm1) := by rfl) (h2 : lookT N tm1 = some (.yl k) := by rfl) (h3 : loopAt nbI st = some (none, TI, tm2) := by rfl) : rndK P cx ops rest t N k nbI R T TI Q .normal ⟨tm, st, nb⟩ := ⟨tm1, tm2, h1, h2, h3, by rw [endN hOk]; exact h⟩
theorem nx_rndq {v : V} (hfn : ∃ fn, P.funcs[R.fn]? = some fn) (h : Q (.panic v) ⟨tm2, st, nb⟩)
    (h1 : loopAt k st = some (some { R with state := .busy }, T, tm1) := by rfl) (h3 : loopAt nbI st = some (none, TI, tm2) := by rfl) : rndK P cx ops rest t N k nbI R T TI Q (.panic v) ⟨tm, st, nb⟩ := ⟨hfn, tm1, tm2, h1, h3, h⟩
theorem nx_rnde {i : Nat} (h : VL P cx ops rest ⟨(t, .d (.lit (.bool false))) :: tm2, .y k (some { R with state := .done, pending := some (.exit i) }) T tm1 :: st, nb⟩ Q)
    (h1 : loopAt k st = some (some { R with state := .busy }, T, tm1) := by rfl) (h2 : lookT N tm1 = some (.yl k) := by rfl) (h3 : loopAt nbI st = some (none, TI, tm2) := by rfl) : rndK P cx ops rest t N k nbI R T TI Q (.exit i) ⟨tm, st, nb⟩ := ⟨tm1, tm2, h1, h2, h3, h⟩
theorem nx_rndr (h : VL P cx ops rest ⟨(t, .d (.lit (.bool false))) :: tm2, .y k (some { R with state := .done, pending := some .ret }) T tm1 :: st, nb⟩ Q)
    (h1 : loopAt k st = some (some { R with state := .busy }, T, tm1) := by rfl) (h2 : lookT N tm1 = some (.yl k) := by rfl) (h3 : loopAt nbI st = some (none, TI, tm2) := by rfl) : rndK P cx ops rest t N k nbI R T TI Q .ret ⟨tm, st, nb⟩ := ⟨tm1, tm2, h1, h2, h3, h⟩
theorem nx_rng {ps : Array Tmp} {assign : Code} {v : V} {N' : Nat} (hOk : LoopOk N' ps assign body R T) (h : Q .normal ⟨tm2, st2, nb⟩)
    (h1 : loopAt k st = some (some R, T, tm1) := by rfl) (h2 : lookT cx.N tm1 = some (.yl k) := by rfl) (h3 : lowT cx.N tm1 = some tm2 := by rfl) (h4 : dropY k st = some st2 := by rfl) : rangeK P cx k T Q (.ret v) st nb :=
  ⟨R, tm1, tm2, st2, h1, by rw [hOk.state]; simp, h2, h3, h4, by rw [hOk.pending]; exact h⟩
theorem nx_rngj {v : V} {c : Code} (h : VW P cx c ⟨tm2, st2, nb⟩ Q)
    (h1 : loopAt k st = some (some { R with state := .done, pending := some c }, T, tm1) := by rfl) (h2 : lookT cx.N tm1 = some (.yl k) := by rfl) (h3 : lowT cx.N tm1 = some tm2 := by rfl) (h4 : dropY k st = some st2 := by rfl) : rangeK P cx k T Q (.ret v) st nb :=
  ⟨_, tm1, tm2, st2, h1, by simp, h2, h3, h4, h⟩
theorem nx_rngp {v : V} {R' : Loop} (h : Q (.panic v) ⟨tm2, st2, nb⟩)
    (h1 : loopAt k st = some (some R', T, tm1) := by rfl) (h2 : lookT cx.N tm1 = some (.yl k) := by rfl) (h3 : lowT cx.N tm1 = some tm2 := by rfl) (h4 : dropY k st = some st2 := by rfl) : rangeK P cx k T Q (.panic v) st nb :=
  ⟨R', tm1, tm2, st2, h1, h2, h3, h4, h⟩
theorem vs_yield {x : Operand} {xs : Array Operand} {tys : Array TypeId} {ty : TypeId} {pos : String} {af : Array Edge} {gd : Option (Nat × Bool)} {vs : List V} {ps : Array Tmp} {assign : Code} {tmO tm0 : List (Nat × V)}
    (hOk : LoopOk N ps assign body R T)
    (h : ∀ l TI, VW P ⟨N, some l, cx.B, cx.m, none, []⟩ assign ⟨pT ps.toList vs tm0, .y nb none TI tm :: st, nb + 1⟩ (asgK P ⟨N, some l, cx.B, cx.m, none, []⟩ body k R T (rndK P cx ops rest t N k nb R T TI Q)))
    (hx : evalV ⟨tm, st, nb⟩ x = some (.yl k) := by rfl) (hv : evalVs ⟨tm, st, nb⟩ xs.toList = some vs := by rfl) (hl : loopAt k st = some (some R, T, tmO) := by rfl) (hlk : lookT N tmO = some (.yl k) := by rfl) (hlo : lowT N tmO = some tm0 := by rfl)
    (hdf : cx.df = [] := by rfl) (hps : ps.toList.length = vs.length := by rfl) (hpb : ps.toList.all (Nat.blt · N) = true := by rfl) (hw : Wd ops tm gd := by first | exact trivial | exact wd_of rfl rfl (by with_reducible rfl)) (ht : Nat.blt t cx.N = true := by rfl) :
    VL P cx ops (⟨some t, .call { callee := .value x, args := xs, argTypes := tys }, ty, pos, af, gd⟩ :: rest) ⟨tm, st, nb⟩ Q := vl_yield hdf hx hv hl hOk hlk hlo hps hpb hw ht h
theorem vs_cif {x : Operand} {f : FuncId} {xs : Array Operand} {tys : Array TypeId} {ty : TypeId} {pos : String} {af : Array Edge} {gd : Option (Nat × Bool)} {v : V} {vs az : List V} {ds' ds : List D} {d d' : D} {c : Bool}
    (hc : VP P f ds (· = if c then .ret d else .panic d')) (k1 : c = true → VL P cx ops rest ⟨(t, .d d) :: tm, st, nb⟩ Q) (k2 : c = false → Q (.panic (.d d')) ⟨tm, st, nb⟩) (hx : evalV ⟨tm, st, nb⟩ x = some v := by rfl) (hv : evalVs ⟨tm, st, nb⟩ xs.toList = some vs := by rfl) (hf : fnV v vs = some (f, az) := by rfl) (ha : AD st az ds' := by first | exact ad_of rfl | ((repeat' (first | exact ad_nil | exact ad_map | ((apply ad_cons); rfl))); fail_if_success (focus skip))) (hd : DLs ds' ds := by ((repeat' (first | exact dls_nil | with_reducible apply dls_cons | with_reducible exact dl_lit _ | with_reducible exact dl_lf _ | infer_instance | with_reducible apply dl_agg | with_reducible apply dl_ifc | with_reducible apply dl_pt | with_reducible apply dl_fn | with_reducible apply dl_slr | assumption | apply dl_slr)); fail_if_success (focus skip))) (hw : Wd ops tm gd := by first | exact trivial | exact wd_of rfl rfl (by with_reducible rfl)) (ht : Nat.blt t cx.N = true := by rfl) :
    VL P cx ops (⟨some t, .call { callee := .value x, args := xs, argTypes := tys }, ty, pos, af, gd⟩ :: rest) ⟨tm, st, nb⟩ Q := by
  cases c with
  | true => exact vl_ret hc hx hv hf ha hd hw ht (k1 rfl)
  | false => exact vl_pan hc hx hv hf ha hd hw ht (k2 rfl)
theorem vs_cifp {x : Operand} {f : FuncId} {xs : Array Operand} {tys : Array TypeId} {ty : TypeId} {pos : String} {af : Array Edge} {gd : Option (Nat × Bool)} {v : V} {vs az : List V} {ds' ds : List D} {d d' : D} {p : Prop} [Decidable p]
    (hc : VP P f ds (· = if decide p then .ret d else .panic d')) (k1 : p → VL P cx ops rest ⟨(t, .d d) :: tm, st, nb⟩ Q) (k2 : ¬ p → Q (.panic (.d d')) ⟨tm, st, nb⟩) (hx : evalV ⟨tm, st, nb⟩ x = some v := by rfl) (hv : evalVs ⟨tm, st, nb⟩ xs.toList = some vs := by rfl) (hf : fnV v vs = some (f, az) := by rfl) (ha : AD st az ds' := by first | exact ad_of rfl | ((repeat' (first | exact ad_nil | exact ad_map | ((apply ad_cons); rfl))); fail_if_success (focus skip))) (hd : DLs ds' ds := by ((repeat' (first | exact dls_nil | with_reducible apply dls_cons | with_reducible exact dl_lit _ | with_reducible exact dl_lf _ | infer_instance | with_reducible apply dl_agg | with_reducible apply dl_ifc | with_reducible apply dl_pt | with_reducible apply dl_fn | with_reducible apply dl_slr | assumption | apply dl_slr)); fail_if_success (focus skip))) (hw : Wd ops tm gd := by first | exact trivial | exact wd_of rfl rfl (by with_reducible rfl)) (ht : Nat.blt t cx.N = true := by rfl) :
    VL P cx ops (⟨some t, .call { callee := .value x, args := xs, argTypes := tys }, ty, pos, af, gd⟩ :: rest) ⟨tm, st, nb⟩ Q := vs_cif hc (fun h => k1 (of_decide_eq_true h)) (fun h => k2 (of_decide_eq_false h)) hx hv hf ha hd hw ht
def SubR (m : Nat) (r : RC) (st : List E) (nb : Nat) (r' : RC) (st' : List E) (nb' : Nat) : Prop :=
  ∀ B g w e, SimS B g w st → Inv B nb g w → vcrel B g w r e → ∃ g', Ext False m g w g' w ∧ SimS B g' w st' ∧ Inv B nb' g' w ∧ vcrel B g' w r' e ∧ m ≤ nb'
def subK (m : Nat) (r' : RC) (st' : List E) (nb' : Nat) : RC → List E → Nat → Prop := fun r s n => SubR m r s n r' st' nb'
theorem ren_ext {B n m nb : Nat} {ρ : Ren} {g : G} {w : World} (_ : Inv B nb g w) (hρ : renOk m ρ = true) (hmn : m ≤ n) : Ext False m g w (g.ren ρ n) w := by
  obtain ⟨_, hk⟩ := renOk_spec hρ
  have hno : ∀ {k}, k < m → lookR k ρ = none := fun {k} hlt => by
    cases hq : lookR k ρ with
    | none => rfl
    | some p => have := (hk hq).1; omega
  refine ⟨rfl, rfl, rfl, Nat.le_refl _, fun hk e => ?_, fun hk e => ?_, fun b _ hp => ⟨ren_prot hp, rfl⟩, fun _ h => h, fun _ _ _ => rfl, .refl, fun _ _ _ => blurB_refl _⟩
  · simp only [G.ren]; rw [if_pos (by omega)]; exact e
  · simp only [G.ren]; rw [if_pos (by omega), hno hk]; exact e
theorem subR_ret {m nb' : Nat} {v v' : V} {st' : List E} (ρ : Ren) (hv : RLe nb' ρ st v' v) (h2 : EntR nb' ρ st st') (hρ : renOk m ρ = true) (h3 : Nat.ble m nb' = true) : SubR m (.ret v) st nb (.ret v') st' nb' := fun B g w e hs hi hr => by
  obtain ⟨u, rfl, hu⟩ := hr
  have hm := Nat.le_of_ble_eq_true h3
  exact ⟨g.ren ρ nb', ren_ext hi hρ hm, ⟨fun hc => entR_cell hs h2 hc, fun hr => entR_row hs h2 hr, fun hl => entR_loop hs h2 hl⟩, ren_inv hi hρ, ⟨u, rfl, hv _ _ _ _ hs hu⟩, hm⟩
theorem subR_pan {m nb' : Nat} {v v' : V} {st' : List E} (ρ : Ren) (hv : RLe nb' ρ st v' v) (h2 : EntR nb' ρ st st') (hρ : renOk m ρ = true) (h3 : Nat.ble m nb' = true) : SubR m (.panic v) st nb (.panic v') st' nb' := fun B g w e hs hi hr => by
  obtain ⟨u, rfl, hu⟩ := hr
  have hm := Nat.le_of_ble_eq_true h3
  exact ⟨g.ren ρ nb', ren_ext hi hρ hm, ⟨fun hc => entR_cell hs h2 hc, fun hr => entR_row hs h2 hr, fun hl => entR_loop hs h2 hl⟩, ren_inv hi hρ, ⟨u, rfl, hv _ _ _ _ hs hu⟩, hm⟩
theorem nx_sub {m nb' : Nat} {v v' : V} {st' : List E} (ρ : Ren) (hv : RLe nb' ρ st v' v := by ((repeat' (first | exact trivial | exact rle_nil | refine rle_cons ?_ ?_ | exact rle_any | exact rle_dd | exact rle_ptr rfl | exact rle_row rfl rfl | exact rle_rowk rfl rfl | refine rle_agg ?_ | refine rle_tup ?_ | refine rle_ifc ?_ | refine rle_fn ?_ ?_ | exact rle_po | exact rle_pof | exact rle_ep | exact rle_sv rfl | exact rle_yl rfl | refine ⟨⟨rfl, _, rfl, ?_⟩, ?_⟩ | exact rle_d rfl (by infer_instance) | refine ⟨⟨_, rfl, ?_⟩, ?_⟩ | refine ⟨⟨rfl, .inl ⟨rfl, _, _, rfl, rfl⟩⟩, ?_⟩ | refine ⟨⟨rfl, .inr ⟨rfl, rfl, rfl⟩⟩, ?_⟩ | refine ⟨⟨rfl, _, rfl, ?_⟩, ?_⟩ | refine ⟨?_, ?_⟩)); fail_if_success (focus skip))) (h2 : EntR nb' ρ st st' := by ((repeat' (first | exact trivial | exact rle_nil | refine rle_cons ?_ ?_ | exact rle_any | exact rle_dd | exact rle_ptr rfl | exact rle_row rfl rfl | exact rle_rowk rfl rfl | refine rle_agg ?_ | refine rle_tup ?_ | refine rle_ifc ?_ | refine rle_fn ?_ ?_ | exact rle_po | exact rle_pof | exact rle_ep | exact rle_sv rfl | exact rle_yl rfl | refine ⟨⟨rfl, _, rfl, ?_⟩, ?_⟩ | exact rle_d rfl (by infer_instance) | refine ⟨⟨_, rfl, ?_⟩, ?_⟩ | refine ⟨⟨rfl, .inl ⟨rfl, _, _, rfl, rfl⟩⟩, ?_⟩ | refine ⟨⟨rfl, .inr ⟨rfl, rfl, rfl⟩⟩, ?_⟩ | refine ⟨⟨rfl, _, rfl, ?_⟩, ?_⟩ | refine ⟨?_, ?_⟩)); fail_if_success (focus skip))) (hρ : renOk m ρ = true := by first | rfl | decide) (h3 : Nat.ble m nb' = true := by rfl) : subK m (.ret v') st' nb' (.ret v) st nb := subR_ret ρ hv h2 hρ h3
theorem nx_subp {m nb' : Nat} {v v' : V} {st' : List E} (ρ : Ren) (hv : RLe nb' ρ st v' v := by ((repeat' (first | exact trivial | exact rle_nil | refine rle_cons ?_ ?_ | exact rle_any | exact rle_dd | exact rle_ptr rfl | exact rle_row rfl rfl | exact rle_rowk rfl rfl | refine rle_agg ?_ | refine rle_tup ?_ | refine rle_ifc ?_ | refine rle_fn ?_ ?_ | exact rle_po | exact rle_pof | exact rle_ep | exact rle_sv rfl | exact rle_yl rfl | refine ⟨⟨rfl, _, rfl, ?_⟩, ?_⟩ | exact rle_d rfl (by infer_instance) | refine ⟨⟨_, rfl, ?_⟩, ?_⟩ | refine ⟨⟨rfl, .inl ⟨rfl, _, _, rfl, rfl⟩⟩, ?_⟩ | refine ⟨⟨rfl, .inr ⟨rfl, rfl, rfl⟩⟩, ?_⟩ | refine ⟨⟨rfl, _, rfl, ?_⟩, ?_⟩ | refine ⟨?_, ?_⟩)); fail_if_success (focus skip))) (h2 : EntR nb' ρ st st' := by ((repeat' (first | exact trivial | exact rle_nil | refine rle_cons ?_ ?_ | exact rle_any | exact rle_dd | exact rle_ptr rfl | exact rle_row rfl rfl | exact rle_rowk rfl rfl | refine rle_agg ?_ | refine rle_tup ?_ | refine rle_ifc ?_ | refine rle_fn ?_ ?_ | exact rle_po | exact rle_pof | exact rle_ep | exact rle_sv rfl | exact rle_yl rfl | refine ⟨⟨rfl, _, rfl, ?_⟩, ?_⟩ | exact rle_d rfl (by infer_instance) | refine ⟨⟨_, rfl, ?_⟩, ?_⟩ | refine ⟨⟨rfl, .inl ⟨rfl, _, _, rfl, rfl⟩⟩, ?_⟩ | refine ⟨⟨rfl, .inr ⟨rfl, rfl, rfl⟩⟩, ?_⟩ | refine ⟨⟨rfl, _, rfl, ?_⟩, ?_⟩ | refine ⟨?_, ?_⟩)); fail_if_success (focus skip))) (hρ : renOk m ρ = true := by first | rfl | decide) (h3 : Nat.ble m nb' = true := by rfl) : subK m (.panic v') st' nb' (.panic v) st nb := subR_pan ρ hv h2 hρ h3
theorem vm1_of {P : Program} {f : FuncId} {fn : Func} {c : Code} {m : Nat} {vs : List V} {st : List E} {nb nb' : Nat} {r : RC} {st' : List E} (hf : P.funcs[f]? = some fn) (hb : fn.body = some c) {N : Nat} (hN : fn.ntmps = N) {rs : List ResultVar} (hrs0 : fn.results = rs.toArray)
    (h : ∀ B M, VW P ⟨N, none, B, m, some M, []⟩ c ⟨argsT 0 vs, st, nb⟩ (retC P rs (mK m (subK m r st' nb')))) (hle : Nat.ble vs.length N = true := by rfl) (hname : (fn.name == "runtime.NumGoroutine") = false := by kernel_rfl) : VM1 P f m vs st nb r st' nb' := fun B => by
  have hv := vmb_of (B := B) hf hb hN hrs0 (h B) hle hname
  refine ⟨hv.1, fun g w us h1 h2 h3 => (hv.2 g w us h1 h2 h3).mono ?_⟩
  rintro e w' ⟨g1, st1, nb1, r1, k1, k2, k3, k4, k5, k6⟩
  obtain ⟨g2, q1, q2, q3, q4, q5⟩ := k5 B g1 w' e k2 k3 k4
  exact ⟨g2, st', nb', r, k1.trans2 q1, q2, q3, q4, ⟨rfl, rfl, rfl⟩, q5⟩
def purgeR (ks : List Nat) : List E → Option (List E)
  | [] => some []
  | .c k off vs :: r => (match purgeR ks r with
    | some q => (match memB k ks with
      | true => some q
      | false => some (.c k off vs :: q))
    | none => none)
  | .y k lp T tm :: r => (match purgeR ks r with
    | some q => some (.y k lp T tm :: q)
    | none => none)
  | .r o nw k ver e sz l :: r => (match purgeR ks r with
    | some q => (match memB k ks with
      | true => some q
      | false => some (.r o nw k ver e sz l :: q))
    | none => none)
theorem purgeR_none {ks : List Nat} {k : Nat} (hm : memB k ks = true) : ∀ {st q : List E}, purgeR ks st = some q → rowAt k q = none ∧ ∀ o, cellAt k o q = none
  | [], q, h => by simp only [purgeR, Option.some.injEq] at h; subst h; exact ⟨rfl, fun _ => rfl⟩
  | .c k' .. :: r, q, h => by
    simp only [purgeR] at h
    split at h
    · rename_i q' hq
      have ih := purgeR_none hm hq
      split at h
      · cases h; exact ih
      · rename_i hk2
        cases h
        simp only [rowAt]
        refine ⟨ih.1, fun o => ?_⟩
        simp only [cellAt]
        split
        · rename_i hb
          have := Nat.eq_of_beq_eq_true hb
          subst this
          rw [hm] at hk2; cases hk2
        · exact ih.2 o
    · cases h
  | .y .. :: r, q, h => by
    simp only [purgeR] at h
    split at h
    · rename_i q' hq; cases h; simp only [rowAt, cellAt]; exact purgeR_none hm hq
    · cases h
  | .r .. :: r, q, h => by
    simp only [purgeR] at h
    split at h
    · rename_i q' hq
      have ih := purgeR_none hm hq
      split at h
      · cases h; exact ih
      · rename_i hk2
        cases h
        simp only [rowAt, cellAt]
        refine ⟨?_, ih.2⟩
        split
        · rename_i hb
          have := Nat.eq_of_beq_eq_true hb
          subst this
          rw [hm] at hk2; cases hk2
        · exact ih.1
    · cases h
theorem purgeR_spec {ks : List Nat} : ∀ {st q : List E}, purgeR ks st = some q → (∀ i o x, cellAt i o q = some x → cellAt i o st = some x) ∧ (∀ i x, rowAt i q = some x → rowAt i st = some x) ∧ ∀ i, loopAt i q = loopAt i st
  | [], q, h => by simp only [purgeR, Option.some.injEq] at h; subst h; exact ⟨fun _ _ _ h => h, fun _ _ h => h, fun _ => rfl⟩
  | .c k off vs :: r, q, h => by
    simp only [purgeR] at h
    split at h
    · rename_i q' hq
      obtain ⟨h1, h2, h3⟩ := purgeR_spec hq
      split at h
      · rename_i hm
        cases h
        refine ⟨fun i o x hx => ?_, fun i x hx => by simp only [rowAt]; exact h2 i x hx, fun i => by simp only [loopAt]; exact h3 i⟩
        simp only [cellAt]
        split
        · rename_i hb
          have := Nat.eq_of_beq_eq_true hb
          subst this
          rw [(purgeR_none hm hq).2] at hx; cases hx
        · exact h1 i o x hx
      · cases h
        refine ⟨fun i o x hx => ?_, fun i x hx => by simp only [rowAt] at hx ⊢; exact h2 i x hx, fun i => by simp only [loopAt]; exact h3 i⟩
        simp only [cellAt] at hx ⊢
        split
        · rename_i hb
          simp only [hb] at hx
          split
          · rename_i ho
            simp only [ho] at hx
            split
            · rename_i v' hv'; simp only [hv'] at hx; exact hx
            · rename_i hv'; simp only [hv'] at hx; exact h1 _ _ _ hx
          · rename_i ho
            simp only [ho] at hx
            exact h1 _ _ _ hx
        · rename_i hb; simp only [hb] at hx; exact h1 _ _ _ hx
    · cases h
  | .y .. :: r, q, h => by
    simp only [purgeR] at h
    split at h
    · rename_i q' hq; cases h; obtain ⟨h1, h2, h3⟩ := purgeR_spec hq
      exact ⟨fun i o x hx => by simp only [cellAt] at hx ⊢; exact h1 i o x hx, fun i x hx => by simp only [rowAt] at hx ⊢; exact h2 i x hx, fun i => by simp only [loopAt, h3]⟩
    · cases h
  | .r o nw k ver e sz l :: r, q, h => by
    simp only [purgeR] at h
    split at h
    · rename_i q' hq
      obtain ⟨h1, h2, h3⟩ := purgeR_spec hq
      split at h
      · rename_i hm
        cases h
        refine ⟨fun i o x hx => by simp only [cellAt]; exact h1 i o x hx, fun i x hx => ?_, fun i => by simp only [loopAt]; exact h3 i⟩
        simp only [rowAt]
        split
        · rename_i hb
          have := Nat.eq_of_beq_eq_true hb
          subst this
          rw [(purgeR_none hm hq).1] at hx; cases hx
        · exact h2 i x hx
      · cases h
        refine ⟨fun i o x hx => by simp only [cellAt] at hx ⊢; exact h1 i o x hx, fun i x hx => ?_, fun i => by simp only [loopAt]; exact h3 i⟩
        simp only [rowAt] at hx ⊢
        split
        · rename_i hb; simp only [hb] at hx; exact hx
        · rename_i hb; simp only [hb] at hx; exact h2 i x hx
    · cases h
theorem vw_drawkx {l : List Oper} {id n : Nat} {hd tl : List Oper} {st0 : List E} (ks : List Nat) (h : VD P cx l tm st0 st nb (dstL hd) Q hd tl 0 [] tm st0 nb) (hp : purgeR ks st = some st0 := by rfl) (hk : DrawOK P l n hd tl := by
    first | exact .mk (n := 1) (by decide +kernel) (by kernel_rfl) rfl | exact .mk (n := 2) (by decide +kernel) (by kernel_rfl) rfl | exact .mk (n := 3) (by decide +kernel) (by kernel_rfl) rfl | exact .mk (n := 4) (by decide +kernel) (by kernel_rfl) rfl | exact .mk (n := 5) (by decide +kernel) (by kernel_rfl) rfl | exact .mk (n := 6) (by decide +kernel) (by kernel_rfl) rfl | exact .mk (n := 7) (by decide +kernel) (by kernel_rfl) rfl | exact .mk (n := 8) (by decide +kernel) (by kernel_rfl) rfl | exact .mk (n := 9) (by decide +kernel) (by kernel_rfl) rfl | exact .mk (n := 10) (by decide +kernel) (by kernel_rfl) rfl | exact .mk (n := 11) (by decide +kernel) (by kernel_rfl) rfl | exact .mk (n := 12) (by decide +kernel) (by kernel_rfl) rfl | exact .mk (n := 13) (by decide +kernel) (by kernel_rfl) rfl | exact .mk (n := 14) (by decide +kernel) (by kernel_rfl) rfl | exact .mk (n := 15) (by decide +kernel) (by kernel_rfl) rfl | exact .mk (n := 16) (by decide +kernel) (by kernel_rfl) rfl | exact .mk (n := 17) (by decide +kernel) (by kernel_rfl) rfl | exact .mk (n := 18) (by decide +kernel) (by kernel_rfl) rfl | exact .mk (n := 19) (by decide +kernel) (by kernel_rfl) rfl | exact .mk (n := 20) (by decide +kernel) (by kernel_rfl) rfl | exact .mk (n := 21) (by decide +kernel) (by kernel_rfl) rfl | exact .mk (n := 22) (by decide +kernel) (by kernel_rfl) rfl | exact .mk (n := 23) (by decide +kernel) (by kernel_rfl) rfl | exact .mk (n := 24) (by decide +kernel) (by kernel_rfl) rfl | exact .mk (n := 25) (by decide +kernel) (by kernel_rfl) rfl | exact .mk (n := 26) (by decide +kernel) (by kernel_rfl) rfl | exact .mk (n := 27) (by decide +kernel) (by kernel_rfl) rfl | exact .mk (n := 28) (by decide +kernel) (by kernel_rfl) rfl | exact .mk (n := 29) (by decide +kernel) (by kernel_rfl) rfl | exact .mk (n := 30) (by decide +kernel) (by kernel_rfl) rfl | exact .mk (n := 31) (by decide +kernel) (by kernel_rfl) rfl | exact .mk (n := 32) (by decide +kernel) (by kernel_rfl) rfl | exact .mk (n := 33) (by decide +kernel) (by kernel_rfl) rfl | exact .mk (n := 34) (by decide +kernel) (by kernel_rfl) rfl | exact .mk (n := 35) (by decide +kernel) (by kernel_rfl) rfl | exact .mk (n := 36) (by decide +kernel) (by kernel_rfl) rfl | exact .mk (n := 37) (by decide +kernel) (by kernel_rfl) rfl | exact .mk (n := 38) (by decide +kernel) (by kernel_rfl) rfl | exact .mk (n := 39) (by decide +kernel) (by kernel_rfl) rfl | exact .mk (n := 40) (by decide +kernel) (by kernel_rfl) rfl) : VW P cx (.region id l.toArray true) ⟨tm, st, nb⟩ Q :=
  vw_drawk n (fun _ _ _ h => let ⟨h1, h2, h3⟩ := purgeR_spec hp; ⟨fun hc => h.cell (h1 _ _ _ hc), fun hr => h.row (h2 _ _ hr), fun hl => h.loop (by rw [← h3]; exact hl)⟩) hk.hB hk.hm hk.hsp h
theorem eok_c {stO : List E} {k off : Nat} {vs : List V} : ∀ (n : Nat), cellsAt k off stO n = some vs → EOk stO k (.c k off vs) := fun n h => by
  refine .inr ⟨off, vs, rfl, ?_⟩
  induction n generalizing off vs with
  | zero => simp only [cellsAt, Option.some.injEq] at h; subst h; simp
  | succ n ih =>
    simp only [cellsAt] at h
    split at h
    · cases h
    · rename_i v hv
      split at h
      · cases h
      · rename_i ys hys
        cases h
        intro i x hx
        cases i with
        | zero => simp at hx; subst hx; exact hv
        | succ i => have := ih hys i x (by simpa using hx); rwa [show off + 1 + i = off + (i + 1) by omega] at this
theorem vd_store {l : List Oper} {tm0 : List (Nat × V)} {st0 stO : List E} {nb0 : Nat} {ds : List Nat} {hd tl : List Oper} {i : Nat} {acc : List Ac} {t' ty : TypeId} {x y : Operand} {k' off sz : Nat} {ag : Bool} {z : List Value} {v : V} {vs old : List V} {pos : String} {af : Array Edge} {vis : List E} {tmI : List (Nat × V)} [hT : TyI P t' ag (sz + 1) z]
    (kk : VD P cx l tm0 st0 stO nb0 ds Q hd tl (i + 1) (⟨i, 1000000 + i, .d .any, [.c k' off vs], vis, none, some (k', .c k' off old), [.c k' off vs], none⟩ :: acc) ((1000000 + i, .d .any) :: tm) (.c k' off vs :: st) nb)
    (hsel : selT af.toList ds acc tm0 (tmpsL (Op.store t' x y).operands.toList) = some tmI := by rfl) (hvis : visF acc af.toList = some vis := by rfl)
    (hx : ∀ nb, evalV ⟨tmI, vis ++ st0, nb⟩ x = some (.ptr k' off) := by intro _; rfl) (hy : ∀ nb, evalV ⟨tmI, vis ++ st0, nb⟩ y = some v := by intro _; rfl) (hv : cellsV v = some vs := by rfl) (hl : vs.length = sz + 1 := by rfl) (h1 : leaves vs = true := by rfl)
    (hold : cellsAt k' off stO (sz + 1) = some old := by rfl) (hol : old.length = sz + 1 := by rfl)
    (hnk : noR k' (vis ++ st0) = true := by rfl) (hk : Nat.blt k' nb0 = true := by rfl) (hn0 : noR k' st0 = true := by rfl) (hnc : noC k' acc = true := by rfl) (hds : memN (1000000 + i) ds = true := by rfl) (hfa : findA (1000000 + i) acc = none := by rfl) :
    VD P cx l tm0 st0 stO nb0 ds Q (⟨none, .store t' x y, ty, pos, af, none⟩ :: hd) tl i acc tm st nb :=
  vd_cE kk (.inr ⟨rfl, rfl⟩) hds hfa hsel hvis trivial (c_store hx hy hv hl h1 hol hnk) hn0 noR_nec noR_nec (.inl rfl) (.inl ⟨rfl, ⟨Nat.le_of_ble_eq_true hk, eok_c (sz + 1) hold⟩, hnc⟩)
theorem vd_app {l : List Oper} {tm0 : List (Nat × V)} {st0 stO : List E} {nb0 : Nat} {ds : List Nat} {hd tl : List Oper} {i : Nat} {acc : List Ac} {d : Tmp} {t ty el : TypeId} {x y : Operand} {k ver sz by_ : Nat} {l1 l2 : List (List D)} {nw : Bool} {v2 : V} {pos : String} {af : Array Edge} {vis : List E} {tmI : List (Nat × V)} {gd : Option (Nat × Bool)} [hE : SlI P t el sz by_]
    (kk : VD P cx l tm0 st0 stO nb0 ds Q hd tl (i + 1) (⟨i, d, .row k (ver + 1), [.r true nw k (ver + 1) el sz (l1 ++ l2)], vis, none, some (k, .r true nw k ver el sz l1), [.r true nw k (ver + 1) el sz (l1 ++ l2)], none⟩ :: acc) ((d, .row k (ver + 1)) :: tm) (.r true nw k (ver + 1) el sz (l1 ++ l2) :: st) nb) (_ : resv d hd = false := by rfl)
    (hsel : selT af.toList ds acc tm0 (gT l ⟨some d, .call { callee := .builtin .append, args := #[x, y], argTypes := #[t, t] }, ty, pos, af, gd⟩ ++ tmpsL (Op.call { callee := .builtin .append, args := #[x, y], argTypes := #[t, t] }).operands.toList) = some tmI := by rfl) (hvis : visF acc af.toList = some vis := by rfl) (hw : Wd l tmI gd := by first | exact trivial | exact wd_of rfl rfl (by with_reducible rfl))
    (hx : ∀ nb, evalV ⟨tmI, vis ++ st0, nb⟩ x = some (.row k ver) := by intro _; rfl) (hr : rowAt k stO = some (true, nw, ver, el, sz, l1) := by rfl) (hk : Nat.blt k nb0 = true := by rfl) (hnc : noC k acc = true := by rfl) (hy : ∀ nb, evalV ⟨tmI, vis ++ st0, nb⟩ y = some v2 := by intro _; rfl)
    (hsrc : SrcV (vis ++ st0) sz v2 l2 := by first | exact .row rfl | exact .nil | exact .sl (by first | assumption | (simp; fail_if_success (focus skip)))) (hb : (l1.length + l2.length) * by_ ≤ 140737488355328 := by first | omega | (simp; omega)) (h0 : 0 < by_ := by decide)
    (hnk : noR k (vis ++ st0) = true := by rfl) (hn0 : noR k st0 = true := by rfl) (hd' : Nat.blt d cx.N = true := by rfl) (hds : memN d ds = true := by rfl) (hfa : findA d acc = none := by rfl) :
    VD P cx l tm0 st0 stO nb0 ds Q (⟨some d, .call { callee := .builtin .append, args := #[x, y], argTypes := #[t, t] }, ty, pos, af, gd⟩ :: hd) tl i acc tm st nb :=
  vd_cE kk (.inl ⟨rfl, Nat.le_of_ble_eq_true hd'⟩) hds hfa hsel hvis hw (c_app hx hy hsrc hnk hb h0) hn0 noR_ne noR_ne (.inl rfl) (.inl ⟨rfl, ⟨Nat.le_of_ble_eq_true hk, .inl ⟨nw, ver, el, sz, l1, rfl, hr⟩⟩, hnc⟩)
theorem vd_appp {l : List Oper} {tm0 : List (Nat × V)} {st0 stO : List E} {nb0 : Nat} {ds : List Nat} {hd tl : List Oper} {i : Nat} {acc : List Ac} {d : Tmp} {t ty el : TypeId} {x y : Operand} {k ver sz by_ : Nat} {l1 l2 : List (List D)} {nw : Bool} {v2 : V} {pos : String} {af : Array Edge} {vis : List E} {tmI : List (Nat × V)} {gd : Option (Nat × Bool)} [hE : SlI P t el sz by_]
    (kk : VD P cx l tm0 st0 stO nb0 ds Q hd tl (i + 1) (⟨i, d, .row k (ver + 1), [], vis, none, some (k, .r true nw k ver el sz l1), [.r true nw k (ver + 1) el sz (l1 ++ l2)], none⟩ :: acc) ((d, .row k (ver + 1)) :: tm) (st) nb) (_ : resv d hd = true := by rfl)
    (hsel : selT af.toList ds acc tm0 (gT l ⟨some d, .call { callee := .builtin .append, args := #[x, y], argTypes := #[t, t] }, ty, pos, af, gd⟩ ++ tmpsL (Op.call { callee := .builtin .append, args := #[x, y], argTypes := #[t, t] }).operands.toList) = some tmI := by rfl) (hvis : visF acc af.toList = some vis := by rfl) (hw : Wd l tmI gd := by first | exact trivial | exact wd_of rfl rfl (by with_reducible rfl))
    (hx : ∀ nb, evalV ⟨tmI, vis ++ st0, nb⟩ x = some (.row k ver) := by intro _; rfl) (hr : rowAt k stO = some (true, nw, ver, el, sz, l1) := by rfl) (hk : Nat.blt k nb0 = true := by rfl) (hnc : noC k acc = true := by rfl) (hy : ∀ nb, evalV ⟨tmI, vis ++ st0, nb⟩ y = some v2 := by intro _; rfl)
    (hsrc : SrcV (vis ++ st0) sz v2 l2 := by first | exact .row rfl | exact .nil | exact .sl (by first | assumption | (simp; fail_if_success (focus skip)))) (hb : (l1.length + l2.length) * by_ ≤ 140737488355328 := by first | omega | (simp; omega)) (h0 : 0 < by_ := by decide)
    (hnk : noR k (vis ++ st0) = true := by rfl) (hn0 : noR k st0 = true := by rfl) (hd' : Nat.blt d cx.N = true := by rfl) (hds : memN d ds = true := by rfl) (hfa : findA d acc = none := by rfl) :
    VD P cx l tm0 st0 stO nb0 ds Q (⟨some d, .call { callee := .builtin .append, args := #[x, y], argTypes := #[t, t] }, ty, pos, af, gd⟩ :: hd) tl i acc tm st nb :=
  vd_cE kk (.inl ⟨rfl, Nat.le_of_ble_eq_true hd'⟩) hds hfa hsel hvis hw (c_app hx hy hsrc hnk hb h0) hn0 noR_ne noR_ne (.inr rfl) (.inl ⟨rfl, ⟨Nat.le_of_ble_eq_true hk, .inl ⟨nw, ver, el, sz, l1, rfl, hr⟩⟩, hnc⟩)
theorem vd_appz {l : List Oper} {tm0 : List (Nat × V)} {st0 stO : List E} {nb0 : Nat} {ds : List Nat} {hd tl : List Oper} {i : Nat} {acc : List Ac} {d : Tmp} {t ty el : TypeId} {x y : Operand} {k ver sz by_ : Nat} {l1 l2 : List (List D)} {nw : Bool} {v2 : V} {pos : String} {af : Array Edge} {vis : List E} {tmI : List (Nat × V)} {gd : Option (Nat × Bool)} {zi zd : Nat} {zv : V} {zs : List E} {zn : Option Nat} {zc : Option (Nat × E)} {zr : Option Nat} [hE : SlI P t el sz by_]
    (kk : VD P cx l tm0 st0 stO nb0 ds Q hd tl (i + 1) (⟨i, d, .row k (ver + 1), [.r true nw k (ver + 1) el sz (l1 ++ l2)], vis, none, some (k, .r true nw k ver el sz l1), [.r true nw k (ver + 1) el sz (l1 ++ l2)], some zi⟩ :: acc) ((d, .row k (ver + 1)) :: tm) (.r true nw k (ver + 1) el sz (l1 ++ l2) :: st) nb) (_ : resv d hd = false := by rfl)
    (hsel : selT af.toList ds acc tm0 (gT l ⟨some d, .call { callee := .builtin .append, args := #[x, y], argTypes := #[t, t] }, ty, pos, af, gd⟩ ++ tmpsL (Op.call { callee := .builtin .append, args := #[x, y], argTypes := #[t, t] }).operands.toList) = some tmI := by rfl) (hvis : visF acc af.toList = some vis := by rfl) (hw : Wd l tmI gd := by first | exact trivial | exact wd_of rfl rfl (by with_reducible rfl))
    (hx : ∀ nb, evalV ⟨tmI, vis ++ st0, nb⟩ x = some (.row k ver) := by intro _; rfl) (hz : lastT k acc = some ⟨zi, zd, zv, [], zs, zn, zc, [.r true nw k ver el sz l1], zr⟩ := by rfl) (hzm : memE zi af.toList = true := by rfl) (hy : ∀ nb, evalV ⟨tmI, vis ++ st0, nb⟩ y = some v2 := by intro _; rfl)
    (hsrc : SrcV (vis ++ st0) sz v2 l2 := by first | exact .row rfl | exact .nil | exact .sl (by first | assumption | (simp; fail_if_success (focus skip)))) (hb : (l1.length + l2.length) * by_ ≤ 140737488355328 := by first | omega | (simp; omega)) (h0 : 0 < by_ := by decide)
    (hnk : noR k (vis ++ st0) = true := by rfl) (hn0 : noR k st0 = true := by rfl) (hd' : Nat.blt d cx.N = true := by rfl) (hds : memN d ds = true := by rfl) (hfa : findA d acc = none := by rfl) :
    VD P cx l tm0 st0 stO nb0 ds Q (⟨some d, .call { callee := .builtin .append, args := #[x, y], argTypes := #[t, t] }, ty, pos, af, gd⟩ :: hd) tl i acc tm st nb :=
  vd_cE kk (.inl ⟨rfl, Nat.le_of_ble_eq_true hd'⟩) hds hfa hsel hvis hw (c_app hx hy hsrc hnk hb h0) hn0 noR_ne noR_ne (.inl rfl) (.inr ⟨_, hz, rfl, rfl, rfl, hzm⟩)
theorem vd_appzp {l : List Oper} {tm0 : List (Nat × V)} {st0 stO : List E} {nb0 : Nat} {ds : List Nat} {hd tl : List Oper} {i : Nat} {acc : List Ac} {d : Tmp} {t ty el : TypeId} {x y : Operand} {k ver sz by_ : Nat} {l1 l2 : List (List D)} {nw : Bool} {v2 : V} {pos : String} {af : Array Edge} {vis : List E} {tmI : List (Nat × V)} {gd : Option (Nat × Bool)} {zi zd : Nat} {zv : V} {zs : List E} {zn : Option Nat} {zc : Option (Nat × E)} {zr : Option Nat} [hE : SlI P t el sz by_]
    (kk : VD P cx l tm0 st0 stO nb0 ds Q hd tl (i + 1) (⟨i, d, .row k (ver + 1), [], vis, none, some (k, .r true nw k ver el sz l1), [.r true nw k (ver + 1) el sz (l1 ++ l2)], some zi⟩ :: acc) ((d, .row k (ver + 1)) :: tm) (st) nb) (_ : resv d hd = true := by rfl)
    (hsel : selT af.toList ds acc tm0 (gT l ⟨some d, .call { callee := .builtin .append, args := #[x, y], argTypes := #[t, t] }, ty, pos, af, gd⟩ ++ tmpsL (Op.call { callee := .builtin .append, args := #[x, y], argTypes := #[t, t] }).operands.toList) = some tmI := by rfl) (hvis : visF acc af.toList = some vis := by rfl) (hw : Wd l tmI gd := by first | exact trivial | exact wd_of rfl rfl (by with_reducible rfl))
    (hx : ∀ nb, evalV ⟨tmI, vis ++ st0, nb⟩ x = some (.row k ver) := by intro _; rfl) (hz : lastT k acc = some ⟨zi, zd, zv, [], zs, zn, zc, [.r true nw k ver el sz l1], zr⟩ := by rfl) (hzm : memE zi af.toList = true := by rfl) (hy : ∀ nb, evalV ⟨tmI, vis ++ st0, nb⟩ y = some v2 := by intro _; rfl)
    (hsrc : SrcV (vis ++ st0) sz v2 l2 := by first | exact .row rfl | exact .nil | exact .sl (by first | assumption | (simp; fail_if_success (focus skip)))) (hb : (l1.length + l2.length) * by_ ≤ 140737488355328 := by first | omega | (simp; omega)) (h0 : 0 < by_ := by decide)
    (hnk : noR k (vis ++ st0) = true := by rfl) (hn0 : noR k st0 = true := by rfl) (hd' : Nat.blt d cx.N = true := by rfl) (hds : memN d ds = true := by rfl) (hfa : findA d acc = none := by rfl) :
    VD P cx l tm0 st0 stO nb0 ds Q (⟨some d, .call { callee := .builtin .append, args := #[x, y], argTypes := #[t, t] }, ty, pos, af, gd⟩ :: hd) tl i acc tm st nb :=
  vd_cE kk (.inl ⟨rfl, Nat.le_of_ble_eq_true hd'⟩) hds hfa hsel hvis hw (c_app hx hy hsrc hnk hb h0) hn0 noR_ne noR_ne (.inr rfl) (.inr ⟨_, hz, rfl, rfl, rfl, hzm⟩)
end
end Go.Proofs.YtnjaohdadaifhaaGreat
