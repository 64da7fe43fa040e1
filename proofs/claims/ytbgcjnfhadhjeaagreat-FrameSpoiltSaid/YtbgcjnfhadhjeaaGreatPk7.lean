/- Walks by data and names, part 7: Calls of functions whose answer to data is known. -/
import Derived.Test.YtbgcjnfhadhjeaaGreatPk6
namespace Go.Proofs.YtbgcjnfhadhjeaaGreat
set_option maxRecDepth 20000
open Go.RowKit
class DL (x y : D) : Prop where
 le : ∀ B B' U w u, drep B U w x u → drep B' U w y u
class Er (x y : List D) : Prop where
 le : ∀ B B' U w u, dreps B U w x u → dreps B' U w y u
class CC (x y : List (List D)) : Prop where
 le : ∀ B B' U w u, drepss B U w x u → drepss B' U w y u
 len : x.length = y.length
 sz : ∀ n, (∀ c ∈ x, c.length = n) → ∀ c ∈ y, c.length = n
instance (v : Value) : DL (.lit v) (.lit v) := ⟨fun _ _ _ _ _ h => by simp only [drep] at h ⊢; exact h⟩
instance (x : D) : DL x .any := ⟨fun _ _ _ _ _ _ => by simp only [drep]⟩
instance : Er [] [] := ⟨fun _ _ _ _ _ h => by simp only [dreps] at h ⊢; exact h⟩
instance {x y : D} {xs ys : List D} [h : DL x y] [hs : Er xs ys] : Er (x :: xs) (y :: ys) := ⟨fun B B' U w u k => by
 simp only [dreps] at k ⊢
 obtain ⟨a, b, e, k1, k2⟩ := k
 exact ⟨a, b, e, h.le _ _ _ _ _ k1, hs.le _ _ _ _ _ k2⟩⟩
instance {xs ys : List D} [hs : Er xs ys] : DL (.agg xs) (.agg ys) := ⟨fun B B' U w u k => by
 simp only [drep] at k ⊢
 obtain ⟨cs, e, k⟩ := k
 exact ⟨cs, e, hs.le _ _ _ _ _ k⟩⟩
instance {xs ys : List D} [hs : Er xs ys] : DL (.tup xs) (.tup ys) := ⟨fun B B' U w u k => by
 simp only [drep] at k ⊢
 obtain ⟨cs, e, k⟩ := k
 exact ⟨cs, e, hs.le _ _ _ _ _ k⟩⟩
instance {t : TypeId} {x y : D} [hs : DL x y] : DL (.ifc t x) (.ifc t y) := ⟨fun B B' U w u k => by
 simp only [drep] at k ⊢
 obtain ⟨cs, e, k⟩ := k
 exact ⟨cs, e, hs.le _ _ _ _ _ k⟩⟩
instance {xs ys : List D} [hs : Er xs ys] : DL (.pt xs) (.pt ys) := ⟨fun B B' U w u k => by
 simp only [drep] at k ⊢
 obtain ⟨b, o, cs, e, k1, k2⟩ := k
 exact ⟨b, o, cs, e, k1, hs.le _ _ _ _ _ k2⟩⟩
instance (f : FuncId) : DL (.lit (.func (.func f) #[] #[])) (.fn f [] []) := ⟨fun B B' U w u k => by
 simp only [drep, dreps] at k ⊢
 exact ⟨[], [], k, rfl, rfl⟩⟩
instance {f : FuncId} {xs ys xs' ys' : List D} [hs : Er xs ys] [hs' : Er xs' ys'] : DL (.fn f xs xs') (.fn f ys ys') := ⟨fun B B' U w u k => by
 simp only [drep] at k ⊢
 obtain ⟨a, b, e, k1, k2⟩ := k
 exact ⟨a, b, e, hs.le _ _ _ _ _ k1, hs'.le _ _ _ _ _ k2⟩⟩
theorem Acd {c f : Bool} {x y : List (List D)} (hs : CC x y) : ∀ B B' U w u, drep B U w (.sl c f x) u → drep B' U w (.sl false false y) u := fun B B' U w u k => by
 simp only [drep] at k ⊢
 obtain ⟨a, cap, cs, e1, e2, e3, e4, e5, ⟨sz, e6⟩, e0, e7, e8⟩ := k
 refine ⟨a, cap, cs, by rw [e1, hs.len], by rw [← hs.len]; exact e2, e3, (fun h => by cases h), e5, ⟨sz, hs.sz sz e6⟩, e0, e7.imp fun b h => ⟨h.1, fun h => by cases h⟩, hs.le _ _ _ _ _ e8⟩
instance {c f : Bool} {x y : List (List D)} [hs : CC x y] : DL (.sl c f x) (.sl false false y) := ⟨Acd hs⟩
theorem BS {α : Type} (l : List α) (f g : α → List D) (h : ∀ x, Er (f x) (g x)) (hl : ∀ x, (f x).length = (g x).length) : CC (l.map f) (l.map g) := by
 refine ⟨?_, by simp, fun n hn c hc => ?_⟩
 ·induction l with
  | nil => intro B B' U w u k; simp only [List.map_nil, drepss] at k ⊢; exact k
  | cons x l ih =>
   intro B B' U w u k
   simp only [List.map_cons, drepss] at k ⊢
   obtain ⟨c1, c2, e, k1, k2⟩ := k
   exact ⟨c1, c2, e, (h x).le _ _ _ _ _ k1, ih _ _ _ _ _ k2⟩
 ·simp only [List.mem_map] at hc
  obtain ⟨x, hx, rfl⟩ := hc
  rw [← hl]; exact hn _ (List.mem_map.2 ⟨x, hx, rfl⟩)
instance {α : Type} (l : List α) (f : α → Value) : CC (l.map fun x => [D.lit (f x)]) (l.map fun x => [D.lit (f x)]) := BS l _ _ (fun _ => inferInstance) (fun _ => rfl)
instance {c f : Bool} : DL (.lit (.slice none 0 0)) (.sl c f []) := ⟨fun B B' U w u h => N6 c f B' U w u (by simp only [drep] at h ⊢; exact h)⟩
instance : CC [] [] := ⟨fun _ _ _ _ _ h => by simp only [drepss] at h ⊢; exact h, rfl, fun _ _ c hc => by simp at hc⟩
theorem Dy : Er [] [] := inferInstance
theorem CH {x y : D} {xs ys : List D} (h : DL x y) (hs : Er xs ys) : Er (x :: xs) (y :: ys) := inferInstance
theorem EO (v : Value) : DL (.lit v) (.lit v) := inferInstance
theorem EQ {xs ys : List D} (h : Er xs ys) : DL (.agg xs) (.agg ys) := inferInstance
theorem GK (f : FuncId) : DL (.lit (.func (.func f) #[] #[])) (.fn f [] []) := inferInstance
theorem GJ {xs ys : List D} (h : Er xs ys) : DL (.pt xs) (.pt ys) := inferInstance
theorem GL {f : FuncId} {xs ys xs' ys' : List D} (h : Er xs ys) (h' : Er xs' ys') : DL (.fn f xs xs') (.fn f ys ys') := inferInstance
theorem EP {t : TypeId} {x y : D} (h : DL x y) : DL (.ifc t x) (.ifc t y) := inferInstance
theorem BK {c f : Bool} {x : List (List D)} (h : CC x x) : DL (.sl c f x) (.sl false false x) := inferInstance
mutual
/-- data out of a value, to be handed on -/
def Fw (st : List E) : V → Option D
 | .d x => some x
 | .agg l => match Nd st l with
  | some ds => some (.agg ds)
  | none => none
 | .row k ver => match AB k st with
  | some (o, nw, v, _, _, l) => (match o with
   | true => none
   | false => (match Nat.beq ver v with
    | true => some (.sl false nw l)
    | false => none))
  | none => none
 | .ifc t x => match Fw st x with
  | some d => some (.ifc t d)
  | none => none
 | .fn f [] [] => some (.lit (.func f #[] #[]))
 | .ep l => some (.pt l)
 | _ => none
def Nd (st : List E) : List V → Option (List D)
 | [] => some []
 | v :: vs => match Fw st v with
  | none => none
  | some d => (match Nd st vs with
   | none => none
   | some ds => some (d :: ds))
end
section
variable {B : Nat} {g : G} {w : World} {st : List E}
mutual
theorem ED (h : AG B g w st) : ∀ {v : V} {d : D}, Fw st v = some d → ∀ {u : Value}, vrep B g w v u → drep B g.prot w d u
 | .d x, d, hd, u, hu => by simp only [Fw, Option.some.injEq] at hd; subst hd; simp only [vrep] at hu; exact hu
 | .agg l, d, hd, u, hu => by
  simp only [Fw] at hd
  split at hd
  ·rename_i ds hds; cases hd
   simp only [vrep] at hu
   obtain ⟨cs, e, k⟩ := hu
   simp only [drep]
   exact ⟨cs, e, JO h hds k⟩
  ·cases hd
 | .row k ver, d, hd, u, hu => by
  simp only [Fw] at hd
  split at hd
  ·rename_i o nw v e sz l hr
   cases o with
   | true => simp at hd
   | false =>
    simp only at hd
    split at hd
    ·rename_i hb
     have := Nat.eq_of_beq_eq_true hb
     subst this
     cases hd
     simp only [vrep] at hu
     obtain ⟨v', xs, h1, h2, h3, _, h4⟩ := h.row hr
     rw [hu.1] at h1; cases h1
     rcases h4 with ⟨h4, _⟩ | ⟨_, h4, h5⟩
     ·cases h4
     ·exact h5
    ·cases hd
  ·cases hd
 | .ifc t x, d, hd, u, hu => by
  simp only [Fw] at hd
  split at hd
  ·rename_i y hy; cases hd
   simp only [vrep] at hu
   obtain ⟨z, e, k⟩ := hu
   simp only [drep]
   exact ⟨z, e, ED h hy k⟩
  ·cases hd
 | .fn f [] [], d, hd, u, hu => by
  simp only [Fw, Option.some.injEq] at hd; subst hd
  simp only [vrep, vreps] at hu
  obtain ⟨xs, ys, e, rfl, rfl⟩ := hu
  simp only [drep]; exact e
 | .fn f (_ :: _) _, d, hd, _, _ => by simp [Fw] at hd
 | .fn f [] (_ :: _), d, hd, _, _ => by simp [Fw] at hd
 | .ptr _ _, d, hd, _, _ => by simp [Fw] at hd
 | .ep l, d, hd, u, hu => by
  simp only [Fw, Option.some.injEq] at hd; subst hd
  simp only [vrep] at hu
  obtain ⟨b, o, cs, e, k1, k2⟩ := hu
  simp only [drep]
  exact ⟨b, o, cs, e, k1.imp fun b hb => ⟨hb, trivial⟩, k2⟩
 | .sv _ _ _ _ _, d, hd, _, _ => by simp [Fw] at hd
 | .tup _, d, hd, _, _ => by simp [Fw] at hd
 | .rp _ _ _ _ _, d, hd, _, _ => by simp [Fw] at hd
theorem JO (h : AG B g w st) : ∀ {v : List V} {d : List D}, Nd st v = some d → ∀ {u : List Value}, vreps B g w v u → dreps B g.prot w d u
 | [], d, hd, u, hu => by simp only [Nd, Option.some.injEq] at hd; subst hd; simp only [vreps] at hu; simp only [dreps]; exact hu
 | v :: vs, d, hd, u, hu => by
  simp only [Nd] at hd
  split at hd
  ·cases hd
  ·rename_i x hx
   split at hd
   ·cases hd
   ·rename_i xs hxs
    cases hd
    simp only [vreps] at hu
    obtain ⟨y, ys, e, k1, k2⟩ := hu
    simp only [dreps]
    exact ⟨y, ys, e, ED h hx k1, JO h hxs k2⟩
end
end
def AY (s : St) : List Operand → Option (List V)
 | [] => some []
 | x :: xs => match Af s x with
  | none => none
  | some v => (match AY s xs with
   | none => none
   | some vs => some (v :: vs))
theorem C7.evals {cx : Cx} {s : St} {g : G} {a : Act} {w : World} (h : C7 cx g a w s) : ∀ {xs : List Operand} {vs : List V}, AY s xs = some vs → vreps cx.B g w vs (xs.map a.eval)
 | [], vs, hv => by simp only [AY, Option.some.injEq] at hv; subst hv; simp [vreps]
 | x :: xs, vs, hv => by
  simp only [AY] at hv
  split at hv
  ·cases hv
  ·rename_i v h1
   split at hv
   ·cases hv
   ·rename_i vs' h2
    cases hv
    simp only [List.map_cons, vreps]
    exact ⟨_, _, rfl, h.eval h1, C7.evals h h2⟩
def G.addRw (g : G) (k : Nat) (u : Value) : G := ⟨g.ex, g.bx, fun i => if i = k then u.ownBlock else g.rb i, fun i v => if i = k then (if v = 0 then some u else none) else g.rw i v, g.pl, g.plex⟩
theorem DX {B : Nat} {g : G} {w w' : World} {nb k : Nat} (hi : Cs B nb g w) (hf : Me g k) (hkn : k < nb) (hw : Below w.heap.size w w') {e : TypeId} {sz : Nat} {l : List (List D)} {u : Value} {xs : List Value}
  (h1 : drepss B (fun b => g.prot b ∧ some b ≠ u.ownBlock) w' l xs) (h2 : (∀ x ∈ l, x.length = sz) ∧ ∀ u ∈ xs, u.oneCell' = true) (h3 : w'.ownsRow w.heap.size e sz u l.length xs) :
  New B g w (g.addRw k u) w' k ∧ AG B (g.addRw k u) w' [.r true true k 0 e sz l] ∧ Cs B nb (g.addRw k u) w' ∧ vrep B (g.addRw k u) w' (.row k 0) u := by
 have hnew : ∀ b, u.ownBlock = some b → w.heap.size ≤ b ∧ b < w'.heap.size := fun b hb => h3.lt b hb
 have hrw : ∀ {i j v}, g.rw i j = some v → (g.addRw k u).rw i j = some v := fun {i j v} h => by
  simp only [G.addRw]; rw [if_neg (fun e => by subst e; rw [hf.2.2] at h; cases h)]; exact h
 have hown : ∀ b, (g.addRw k u).own b → g.own b ∨ u.ownBlock = some b := fun b ho => by
  rcases ho with ho | ⟨i, hk⟩ | ⟨i, hk⟩
  ·exact .inl (.inl ho)
  ·exact .inl (.inr (.inl ⟨i, hk⟩))
  ·simp only [G.addRw] at hk
   split at hk
   ·exact .inr hk
   ·exact .inl (.inr (.inr ⟨i, hk⟩))
 have hE : BO B g w (g.addRw k u) w' := ⟨hw.os, hw.tape, hw.output, hw.size, id, hrw, fun b hb hp => ⟨fun ho => by
  rcases hown b ho with h | h
  ·exact hp h
  ·have := (hnew b h).1; omega, hw.block b hb⟩, fun _ h => h, fun b hb => hw.block b (hi.exlt hb), .refl⟩
 have hone : u.oneCell' = true := by
  rcases h3.2 with ⟨rfl, _⟩ | ⟨b, c, cur, rfl, _⟩ <;> rfl
 have hu : (g.addRw k u).rw k 0 = some u := by simp [G.addRw]
 refine ⟨⟨hE, fun b hb => hw.block b hb, fun i hne => ⟨rfl, by simp [G.addRw, hne], by funext j; simp [G.addRw, hne]⟩⟩, ⟨fun {i o x} hc => by simp [Ap] at hc, fun {i o nw ver e' sz' l'} hr => ?_, fun hl => by simp [Au] at hl⟩, ⟨fun {i b} h => ?_, fun {i b} h => ?_, fun {i j v} h => ?_, hi.bxinj, fun {i i' b} h h' => ?_, fun {i i' b} h h' => ?_, fun h => by have := hi.exlt h; have := hw.size; omega, hi.exbx, fun {i b} h he => ?_, hi.plB, Nat.le_trans hi.base hw.size⟩, by simp only [vrep]; exact ⟨hu, hone⟩⟩
 ·simp only [AB] at hr
  split at hr
  ·rename_i hb
   have := Nat.eq_of_beq_eq_true hb
   subst this
   cases hr
   refine ⟨u, xs, hu, AL (Nat.le_refl _) (fun b _ hb => ⟨fun ho => ?_, rfl⟩) h1, ⟨h2.1, h2.2, fun j v' hv => (by simp only [G.addRw, if_true] at hv; split at hv <;> first | omega | cases hv)⟩, (fun _ b hb => Nat.le_trans hi.base (hnew b hb).1), .inl ⟨rfl, EZ h3 (Nat.zero_le _), by simp [G.addRw]⟩⟩
   rcases hown b ho with h | h
   ·exact hb.1 h
   ·exact hb.2 h.symm
  ·cases hr
 ·have := hi.bxlt h; have := hw.size; omega
 ·simp only [G.addRw] at h
  split at h
  ·have := hnew b h; omega
  ·have := hi.rblt h; have := hw.size; omega
 ·simp only [G.addRw] at h
  split at h
  ·omega
  ·exact hi.rwlt h
 ·simp only [G.addRw] at h h'
  split at h <;> split at h'
  ·omega
  ·have := hnew b h; have := (hi.rblt h').1; omega
  ·have := hnew b h'; have := (hi.rblt h).1; omega
  ·exact hi.rbinj h h'
 ·simp only [G.addRw] at h'
  split at h'
  ·have := hnew b h'; have := (hi.bxlt h).1; omega
  ·exact hi.apart h h'
 ·simp only [G.addRw] at h
  split at h
  ·have := hnew b h; have := hi.exlt he; omega
  ·exact hi.exrb h he
def Px : List V → List V → Option (List V)
 | [], l => some l
 | x :: xs, l => match Px xs l with
  | some r => some (x :: r)
  | none => none
theorem Gj : ∀ {a b c : List V}, Px a b = some c → c = a ++ b
 | [], b, c, h => by simp only [Px, Option.some.injEq] at h; rw [← h]; rfl
 | x :: xs, b, c, h => by
  simp only [Px] at h
  split at h
  ·rename_i r hr; cases h; rw [Gj hr]; rfl
  ·cases h
def Hi : V → List V → Option (FuncId × List V)
 | .fn (.func f) fi ca, vs => (match Px vs ca with
  | some r => (match Px fi r with
   | some q => some (f, q)
   | none => none)
  | none => none)
 | .d (.lit (.func (.func f) ⟨[]⟩ ⟨[]⟩)), vs => some (f, vs)
 | .d (.fn f fi ca), vs => (match Px vs (ca.map .d) with
  | some r => (match Px (fi.map .d) r with
   | some q => some (f, q)
   | none => none)
  | none => none)
 | _, _ => none
theorem Po {B : Nat} {g : G} {w : World} {v : V} {vs az : List V} {f : FuncId} (h : Hi v vs = some (f, az)) {u : Value} (hu : vrep B g w v u) {us : List Value} (hus : vreps B g w vs us) :
  ∃ first cap, u = .func (.func f) first cap ∧ ∃ zs : List Value, (first ++ us.toArray) ++ cap = zs.toArray ∧ vreps B g w az zs := by
 unfold Hi at h
 split at h
 ·rename_i f' fi ca vs'
  split at h
  ·rename_i r hr
   split at h
   ·rename_i q hq
    cases h
    simp only [vrep] at hu
    obtain ⟨xs, ys, rfl, k1, k2⟩ := hu
    refine ⟨_, _, rfl, xs ++ us ++ ys, by simp, ?_⟩
    rw [Gj hq, Gj hr, List.append_assoc]
    exact Ed k1 (Ed hus k2)
   ·cases h
  ·cases h
 ·cases h
  simp only [vrep, drep] at hu
  subst hu
  exact ⟨_, _, rfl, us, by simp, hus⟩
 ·rename_i f' fi ca vs'
  split at h
  ·rename_i r hr
   split at h
   ·rename_i q hq
    cases h
    simp only [vrep, drep] at hu
    obtain ⟨xs, ys, rfl, k1, k2⟩ := hu
    refine ⟨_, _, rfl, xs ++ us ++ ys, by simp, ?_⟩
    rw [Gj hq, Gj hr, List.append_assoc]
    exact Ed (Hy k1) (Ed hus (Hy k2))
   ·cases h
  ·cases h
 ·cases h
theorem Gi {P : Program} {cx : Cx} {s : St} {g : G} {a : Act} {w : World} {dst : Option Tmp} {x : Operand} {xs : Array Operand} {tys : Array TypeId} {ty : TypeId} {pos : String} {af : Array Edge} {gd : Option (Nat × Bool)} {v : V} {f : FuncId} {vs az : List V}
  (hc : ∀ args w, (callFunc f args).run P w = .ok (.enter f args) w) (hS : C7 cx g a w s) (hx : Af s x = some v) (hv : AY s xs.toList = some vs) (hf : Hi v vs = some (f, az)) :
  ∃ zs : List Value, (execOp a.eval ⟨dst, .call { callee := .value x, args := xs, argTypes := tys }, ty, pos, af, gd⟩).run P w = .ok (.enter f zs.toArray) w ∧ vreps cx.B g w az zs := by
 obtain ⟨first, cap, hu, zs, hz, hzs⟩ := Po hf (hS.eval hx) (hS.evals hv)
 refine ⟨zs, ?_, hzs⟩
 have hx : (xs.toList.map a.eval).toArray = xs.map a.eval := by rw [← Array.toList_map, Array.toArray_toList]
 rw [hx] at hz
 rw [← hz]
 simp [execOp, resolve, hu, Deferred.ofValue, invoke, hc]
class GO (d : D) : Prop where
 le : ∀ B U w u, drep B U w d u → drep B (fun b => U b ∧ B ≤ b ∧ SV w b) w d u
class Ic (d : List D) : Prop where
 le : ∀ B U w u, dreps B U w d u → dreps B (fun b => U b ∧ B ≤ b ∧ SV w b) w d u
class FI (d : List (List D)) : Prop where
 le : ∀ B U w u, drepss B U w d u → drepss B (fun b => U b ∧ B ≤ b ∧ SV w b) w d u
instance (v : Value) : GO (.lit v) := ⟨fun _ _ _ _ h => by simp only [drep] at h ⊢; exact h⟩
instance : GO .any := ⟨fun _ _ _ _ _ => by simp only [drep]⟩
instance : Ic [] := ⟨fun _ _ _ _ h => by simp only [dreps] at h ⊢; exact h⟩
instance {x : D} {xs : List D} [h : GO x] [hs : Ic xs] : Ic (x :: xs) := ⟨fun B U w u k => by
 simp only [dreps] at k ⊢
 obtain ⟨y, ys, e, k1, k2⟩ := k
 exact ⟨y, ys, e, h.le _ _ _ _ k1, hs.le _ _ _ _ k2⟩⟩
instance {xs : List D} [hs : Ic xs] : GO (.agg xs) := ⟨fun B U w u k => by
 simp only [drep] at k ⊢
 obtain ⟨cs, e, k⟩ := k
 exact ⟨cs, e, hs.le _ _ _ _ k⟩⟩
instance {xs : List D} [hs : Ic xs] : GO (.tup xs) := ⟨fun B U w u k => by
 simp only [drep] at k ⊢
 obtain ⟨cs, e, k⟩ := k
 exact ⟨cs, e, hs.le _ _ _ _ k⟩⟩
instance {t : TypeId} {x : D} [hs : GO x] : GO (.ifc t x) := ⟨fun B U w u k => by
 simp only [drep] at k ⊢
 obtain ⟨y, e, k⟩ := k
 exact ⟨y, e, hs.le _ _ _ _ k⟩⟩
instance {f : FuncId} {xs ys : List D} [hs : Ic xs] [hs' : Ic ys] : GO (.fn f xs ys) := ⟨fun B U w u k => by
 simp only [drep] at k ⊢
 obtain ⟨a, b, e, k1, k2⟩ := k
 exact ⟨a, b, e, hs.le _ _ _ _ k1, hs'.le _ _ _ _ k2⟩⟩
instance {c : Bool} {l : List (List D)} [hs : FI l] : GO (.sl c true l) := ⟨fun B U w u k => by
 simp only [drep] at k ⊢
 obtain ⟨a, cap, cs, e1, e2, e3, e4, e5, e6, e0, e7, e8⟩ := k
 exact ⟨a, cap, cs, e1, e2, e3, e4, e5, e6, e0, e7.imp fun b h => ⟨⟨h.1, h.2 rfl⟩, h.2⟩, hs.le _ _ _ _ e8⟩⟩
theorem O5 {l : List (List D)} (h : ∀ x ∈ l, Ic x) : FI l := ⟨fun B U w u k => by
 induction l generalizing u with
 | nil => simpa only [drepss] using k
 | cons x xs ih =>
  simp only [drepss] at k ⊢
  obtain ⟨c1, c2, e, k1, k2⟩ := k
  exact ⟨c1, c2, e, (h x (by simp)).le _ _ _ _ k1, ih (fun y hy => h y (by simp [hy])) _ k2⟩⟩
instance {c f : Bool} : GO (.sl c f []) := ⟨fun B U w u k => by
 simp only [drep] at k ⊢
 obtain ⟨a, cap, cs, e1, e2, e3, e4, e5, e6, e0, e7, e8⟩ := k
 simp only [drepss] at e8
 subst e8
 exact ⟨a, cap, [], e1, e2, e3, e4, e5, e6, e0, fun j u hj => by simp at hj, by simp only [drepss]⟩⟩
instance : FI [] := O5 fun _ h => by simp at h
instance {x : List D} {l : List (List D)} [h : Ic x] [hs : FI l] : FI (x :: l) := ⟨fun B U w u k => by
 simp only [drepss] at k ⊢
 obtain ⟨c1, c2, e, k1, k2⟩ := k
 exact ⟨c1, c2, e, h.le _ _ _ _ k1, hs.le _ _ _ _ k2⟩⟩
instance HI {α : Type} (l : List α) (f : α → List D) [h : ∀ x, Ic (f x)] : FI (l.map f) := O5 fun x hx => by obtain ⟨n, _, rfl⟩ := List.mem_map.1 hx; exact h n
def Adk : R → Prop
 | .ret d | .panic d => GO d
 | .own _ _ l => FI l
structure AD (st : List E) (vs : List V) (ds : List D) : Prop where
 h : ∀ B g w us, AG B g w st → vreps B g w vs us → dreps B g.prot w ds us
theorem Jc {st : List E} {vs : List V} {ds : List D} (h : Nd st vs = some ds) : AD st vs ds := ⟨fun _ _ _ _ hs hv => JO hs h hv⟩
theorem Hq {st : List E} : AD st [] [] := Jc rfl
theorem FH {st : List E} {v : V} {vs : List V} {d : D} {ds : List D} (h : Fw st v = some d) (hs : AD st vs ds) : AD st (v :: vs) (d :: ds) := ⟨fun B g w us h1 h2 => by
 simp only [vreps] at h2
 simp only [dreps]
 obtain ⟨y, ys, e, k1, k2⟩ := h2
 exact ⟨y, ys, e, ED h1 h k1, hs.h _ _ _ _ h1 k2⟩⟩
theorem Hr {st : List E} {ds : List D} : AD st (ds.map .d) ds := ⟨fun B g w us _ h2 => by
 induction ds generalizing us with
 | nil => simp only [List.map_nil, vreps] at h2; simp only [dreps]; exact h2
 | cons d ds ih =>
  simp only [List.map_cons, vreps] at h2
  simp only [dreps]
  obtain ⟨y, ys, e, k1, k2⟩ := h2
  exact ⟨y, ys, e, (by simpa only [vrep] using k1), ih _ k2⟩⟩
section
variable {P : Program} {cx : Cx} {s : St} {Q : VE → St → Prop} {ops rest : List Oper}
theorem Nk {t : Tmp} {x : Operand} {f : FuncId} {xs : Array Operand} {tys : Array TypeId} {ty : TypeId} {pos : String} {af : Array Edge} {gd : Option (Nat × Bool)} {v : V} {vs az : List V} {ds' ds : List D} {post : R → Prop}
  (hx : Af s x = some v) (hv : AY s xs.toList = some vs) (hf : Hi v vs = some (f, az)) (ha : AD s.st az ds') (hd : Er ds' ds) (hc : VP P f ds post) (hw : Wd ops s.tm gd) (ht : Nat.blt t cx.N = true)
  (k1 : ∀ d, post (.ret d) → VL P cx ops rest ⟨(t, .d d) :: s.tm, s.st, s.nb⟩ Q) (k2 : ∀ e sz l, post (.own e sz l) → VL P cx ops rest ⟨(t, .row s.nb 0) :: s.tm, (.r true true s.nb 0 e sz l) :: s.st, s.nb + 1⟩ Q)
  (k3 : ∀ d, post (.panic d) → Q (.panic (.d d)) s) : VL P cx ops (⟨some t, .call { callee := .value x, args := xs, argTypes := tys }, ty, pos, af, gd⟩ :: rest) s Q := fun n g0 w0 g a w hE hS => by
 simp only [BP]
 rw [if_pos (Wd.wanted (o := ⟨some t, _, ty, pos, af, gd⟩) hS hw)]
 refine ⟨fun _ _ => trivial, ?_⟩
 rw [Oper.semAt_plain (FW cx.rd) _ _ (by intro c e; cases e)]
 obtain ⟨zs, hrun, hzs⟩ := Gi (P := P) (w := w) (dst := some t) (tys := tys) (ty := ty) (pos := pos) (af := af) (gd := gd) hc.1 hS hx hv hf
 rw [hrun, Oper.uponIn_enter]
 refine ⟨(fun h => by cases h), ?_⟩
 have hargs := hd.le _ w.heap.size _ _ _ (ha.h _ _ _ _ hS.st hzs)
 have hcall := hc.2 g.prot w _ hargs
 have hmem : ∀ (r : Ending → World → Prop), Calls P f zs.toArray w r → CallsIn (FW cx.rd) (n - 1) P f zs.toArray w r := fun r h =>
  ⟨trivial, fun cs _ => by
   obtain ⟨e, w', fr, hr, hcm, hx⟩ := h cs
   refine ⟨e, w', fr, hr, ?_, hx⟩
   have := comesIn_wide.2 hcm
   cases e with
   | returned v => exact StepsIn.mono (fun m _ => BA P cx.rd m) this
   | panicked ch => exact StepsIn.mono (fun m _ => BA P cx.rd m) this
   | outgrown => exact this⟩
 refine (hmem _ hcall).mono ?_
 rintro e w' ⟨hb, r, hp, hr⟩
 have hEv : BO cx.B g w g w' := BO.of_below hS.inv hb
 have hpr : ∀ b, g.prot b ∨ w.heap.size ≤ b → g.prot b := fun b h => by
  rcases h with h | h
  ·exact h
  ·rintro (ho | ⟨k, ho⟩ | ⟨k, ho⟩)
   ·have := hS.inv.exlt ho; omega
   ·have := (hS.inv.bxlt ho).1; omega
   ·have := (hS.inv.rblt ho).1; omega
 have hst : AG cx.B g w' s.st := ⟨fun {k o x} hc => by
   obtain ⟨b, rcs, ty, u, m1, m2, m3, m4⟩ := hS.st.cell hc
   exact ⟨b, rcs, ty, u, m1, (hb.block b (hS.inv.bxlt m1).1).trans m2, m3, hEv.vrep m4⟩,
  fun hr => hS.st.keepRow hEv (x := none) ⟨hb.os, hb.tape, hb.output, hb.size, fun b hb' _ => hb.block b hb'⟩ rfl rfl (by simp) hr,
  fun hl => by
   obtain ⟨h1, h2⟩ := hS.st.loop hl
   exact ⟨fun lp e => let ⟨b, m1, m2⟩ := h1 lp e; ⟨b, m1, (hb.block b (hS.inv.bxlt m1).1).trans m2⟩, fun ht => hEv.vrep (h2 ht)⟩⟩
 cases r with
 | ret d =>
  obtain ⟨u, rfl, hu⟩ := hr
  have hu' : vrep cx.B g w' (.d d) u := by simp only [vrep]; exact A7 hS.inv.base (fun b _ h => ⟨hpr b h, rfl⟩) hu
  exact k1 d hp n g0 w0 g _ w' (hE.trans hEv) (hS.put hEv (Nat.le_of_ble_eq_true ht) hst (hS.inv.evo hb.size) hu')
 | own e sz l =>
  obtain ⟨u, xs', rfl, h1, h2, h3⟩ := hr
  have hup := hS.inv.up (Nat.le_succ s.nb)
  obtain ⟨m1, m2, m3, m4⟩ := DX hup hS.inv.free (Nat.lt_succ_self _) hb (AL hS.inv.base (fun b _ h => ⟨⟨hpr b h.1, h.2⟩, rfl⟩) h1) h2 h3
  exact k2 e sz l hp n g0 w0 _ _ w' (hE.trans m1.evo) (hS.put m1.evo (Nat.le_of_ble_eq_true ht) (m2.cons (hS.st.new m1 hup hS.inv.free)) m3 m4)
 | panic d =>
  obtain ⟨u, rfl, hu⟩ := hr
  have hu' : vrep cx.B g w' (.d d) u := by simp only [vrep]; exact A7 hS.inv.base (fun b _ h => ⟨hpr b h, rfl⟩) hu
  exact ⟨g, s, .panic (.d d), hE.trans hEv, hS.same hEv hst (hS.inv.evo hb.size), ⟨u, rfl, hu'⟩, k3 d hp⟩
theorem Tl {t : Tmp} {x : Operand} {f : FuncId} {xs : Array Operand} {tys : Array TypeId} {ty : TypeId} {pos : String} {af : Array Edge} {gd : Option (Nat × Bool)} {v : V} {vs az : List V} {ds' ds : List D} {d : D}
  (hc : VP P f ds (· = .ret d)) (hx : Af s x = some v) (hv : AY s xs.toList = some vs) (hf : Hi v vs = some (f, az)) (ha : AD s.st az ds') (hd : Er ds' ds) (hw : Wd ops s.tm gd) (ht : Nat.blt t cx.N = true)
  (k : VL P cx ops rest ⟨(t, .d d) :: s.tm, s.st, s.nb⟩ Q) : VL P cx ops (⟨some t, .call { callee := .value x, args := xs, argTypes := tys }, ty, pos, af, gd⟩ :: rest) s Q :=
 Nk hx hv hf ha hd hc hw ht (fun _ e => by cases e; exact k) (fun _ _ _ e => by cases e) (fun _ e => by cases e)
theorem Zc {t : Tmp} {x : Operand} {f : FuncId} {xs : Array Operand} {tys : Array TypeId} {ty : TypeId} {pos : String} {af : Array Edge} {gd : Option (Nat × Bool)} {v : V} {vs az : List V} {ds' ds : List D} {e : TypeId} {sz : Nat} {l : List (List D)}
  (hc : VP P f ds (· = .own e sz l)) (hx : Af s x = some v) (hv : AY s xs.toList = some vs) (hf : Hi v vs = some (f, az)) (ha : AD s.st az ds') (hd : Er ds' ds) (hw : Wd ops s.tm gd) (ht : Nat.blt t cx.N = true)
  (k : VL P cx ops rest ⟨(t, .row s.nb 0) :: s.tm, (.r true true s.nb 0 e sz l) :: s.st, s.nb + 1⟩ Q) : VL P cx ops (⟨some t, .call { callee := .value x, args := xs, argTypes := tys }, ty, pos, af, gd⟩ :: rest) s Q :=
 Nk hx hv hf ha hd hc hw ht (fun _ e => by cases e) (fun _ _ _ e => by cases e; exact k) (fun _ e => by cases e)
theorem Tm {t : Tmp} {x : Operand} {f : FuncId} {xs : Array Operand} {tys : Array TypeId} {ty : TypeId} {pos : String} {af : Array Edge} {gd : Option (Nat × Bool)} {v : V} {vs az : List V} {ds' ds : List D} {d : D}
  (hc : VP P f ds (· = .panic d)) (hx : Af s x = some v) (hv : AY s xs.toList = some vs) (hf : Hi v vs = some (f, az)) (ha : AD s.st az ds') (hd : Er ds' ds) (hw : Wd ops s.tm gd) (ht : Nat.blt t cx.N = true)
  (k : Q (.panic (.d d)) s) : VL P cx ops (⟨some t, .call { callee := .value x, args := xs, argTypes := tys }, ty, pos, af, gd⟩ :: rest) s Q :=
 Nk hx hv hf ha hd hc hw ht (fun _ e => by cases e) (fun _ _ _ e => by cases e) (fun _ e => by cases e; exact k)
theorem Nj {t : Tmp} {x : Operand} {f : FuncId} {xs : Array Operand} {tys : Array TypeId} {ty : TypeId} {pos : String} {af : Array Edge} {gd : Option (Nat × Bool)} {v : V} {vs az : List V} {ds' ds : List D} {r : R}
  (hc : VP P f ds (· = r)) (hx : Af s x = some v) (hv : AY s xs.toList = some vs) (hf : Hi v vs = some (f, az)) (ha : Dd s.st 64 az = some ds') (hd : Er ds' ds) (hfl : Adk r) (hw : Wd ops s.tm gd) (ht : Nat.blt t cx.N = true)
  (k1 : ∀ d, r = .ret d → VL P cx ops rest ⟨(t, .d d) :: s.tm, s.st, s.nb⟩ Q) (k2 : ∀ e sz l, r = .own e sz l → VL P cx ops rest ⟨(t, .row s.nb 0) :: s.tm, (.r true true s.nb 0 e sz l) :: s.st, s.nb + 1⟩ Q) (k3 : ∀ d, r = .panic d → Q (.panic (.d d)) s) :
  VL P cx ops (⟨some t, .call { callee := .value x, args := xs, argTypes := tys }, ty, pos, af, gd⟩ :: rest) s Q := fun n g0 w0 g a w hE hS => by
 simp only [BP]
 rw [if_pos (Wd.wanted (o := ⟨some t, _, ty, pos, af, gd⟩) hS hw)]
 refine ⟨fun _ _ => trivial, ?_⟩
 rw [Oper.semAt_plain (FW cx.rd) _ _ (by intro c e; cases e)]
 obtain ⟨zs, hrun, hzs⟩ := Gi (P := P) (w := w) (dst := some t) (tys := tys) (ty := ty) (pos := pos) (af := af) (gd := gd) hc.1 hS hx hv hf
 rw [hrun, Oper.uponIn_enter]
 refine ⟨(fun h => by cases h), ?_⟩
 have hargs := hd.le _ w.heap.size _ _ _ (Cg hS.inv hS.st (fun _ _ => trivial) ha hzs)
 have hcall := hc.2 (fun _ => True) w _ hargs
 have hmem : ∀ (r : Ending → World → Prop), Calls P f zs.toArray w r → CallsIn (FW cx.rd) (n - 1) P f zs.toArray w r := fun r h =>
  ⟨trivial, fun cs _ => by
   obtain ⟨e, w', fr, hr, hcm, hx⟩ := h cs
   refine ⟨e, w', fr, hr, ?_, hx⟩
   have := comesIn_wide.2 hcm
   cases e with
   | returned v => exact StepsIn.mono (fun m _ => BA P cx.rd m) this
   | panicked ch => exact StepsIn.mono (fun m _ => BA P cx.rd m) this
   | outgrown => exact this⟩
 refine (hmem _ hcall).mono ?_
 rintro e w' ⟨hb, r', rfl, hr⟩
 have hEv : BO cx.B g w g w' := BO.of_below hS.inv hb
 have hpr : ∀ b, w.heap.size ≤ b → g.prot b := fun b h => by
  rintro (ho | ⟨k, ho⟩ | ⟨k, ho⟩)
  ·have := hS.inv.exlt ho; omega
  ·have := (hS.inv.bxlt ho).1; omega
  ·have := (hS.inv.rblt ho).1; omega
 have hst : AG cx.B g w' s.st := ⟨fun {k o x} hc => by
   obtain ⟨b, rcs, ty, u, m1, m2, m3, m4⟩ := hS.st.cell hc
   exact ⟨b, rcs, ty, u, m1, (hb.block b (hS.inv.bxlt m1).1).trans m2, m3, hEv.vrep m4⟩,
  fun hr => hS.st.keepRow hEv (x := none) ⟨hb.os, hb.tape, hb.output, hb.size, fun b hb' _ => hb.block b hb'⟩ rfl rfl (by simp) hr,
  fun hl => by
   obtain ⟨h1, h2⟩ := hS.st.loop hl
   exact ⟨fun lp e => let ⟨b, m1, m2⟩ := h1 lp e; ⟨b, m1, (hb.block b (hS.inv.bxlt m1).1).trans m2⟩, fun ht => hEv.vrep (h2 ht)⟩⟩
 cases r' with
 | ret d =>
  obtain ⟨u, rfl, hu⟩ := hr
  have hu' : vrep cx.B g w' (.d d) u := by simp only [vrep]; exact A7 hS.inv.base (fun b _ h => ⟨hpr b h.2.1, rfl⟩) (GO.le (self := hfl) _ _ _ _ hu)
  exact k1 d rfl n g0 w0 g _ w' (hE.trans hEv) (hS.put hEv (Nat.le_of_ble_eq_true ht) hst (hS.inv.evo hb.size) hu')
 | own e sz l =>
  obtain ⟨u, xs', rfl, h1, h2, h3⟩ := hr
  have hup := hS.inv.up (Nat.le_succ s.nb)
  obtain ⟨m1, m2, m3, m4⟩ := DX hup hS.inv.free (Nat.lt_succ_self _) hb (AL hS.inv.base (fun b _ h => ⟨⟨hpr b h.2.1, h.1.2⟩, rfl⟩) (FI.le (self := hfl) _ _ _ _ h1)) h2 h3
  exact k2 e sz l rfl n g0 w0 _ _ w' (hE.trans m1.evo) (hS.put m1.evo (Nat.le_of_ble_eq_true ht) (m2.cons (hS.st.new m1 hup hS.inv.free)) m3 m4)
 | panic d =>
  obtain ⟨u, rfl, hu⟩ := hr
  have hu' : vrep cx.B g w' (.d d) u := by simp only [vrep]; exact A7 hS.inv.base (fun b _ h => ⟨hpr b h.2.1, rfl⟩) (GO.le (self := hfl) _ _ _ _ hu)
  exact ⟨g, s, .panic (.d d), hE.trans hEv, hS.same hEv hst (hS.inv.evo hb.size), ⟨u, rfl, hu'⟩, k3 d rfl⟩
end

end Go.Proofs.YtbgcjnfhadhjeaaGreat