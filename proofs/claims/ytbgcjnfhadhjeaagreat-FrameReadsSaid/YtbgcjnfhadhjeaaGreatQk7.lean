/- Walks by data and names, part 7: Calls of functions whose answer to data is known. Numbers in walks: sums that stay in range, comparisons; slices: elements, parts, lengths. -/
import Derived.IntWalk
import Derived.Laws.Small
import Derived.Test.YtbgcjnfhadhjeaaGreatQk6
namespace Go.Proofs.YtbgcjnfhadhjeaaGreat
set_option maxRecDepth 20000
open Go.RowKit
class DL (x y : D) : Prop where
 le : ∀ B B' U w u, drep B U w x u → drep B' U w y u
class El (x y : List D) : Prop where
 le : ∀ B B' U w u, dreps B U w x u → dreps B' U w y u
class CO (x y : List (List D)) : Prop where
 le : ∀ B B' U w u, drepss B U w x u → drepss B' U w y u
 len : x.length = y.length
 sz : ∀ n, (∀ c ∈ x, c.length = n) → ∀ c ∈ y, c.length = n
instance (v : Value) : DL (.lit v) (.lit v) := ⟨fun _ _ _ _ _ h => by simp only [drep] at h ⊢; exact h⟩
instance (x : D) : DL x .any := ⟨fun _ _ _ _ _ _ => by simp only [drep]⟩
instance : El [] [] := ⟨fun _ _ _ _ _ h => by simp only [dreps] at h ⊢; exact h⟩
instance {x y : D} {xs ys : List D} [h : DL x y] [hs : El xs ys] : El (x :: xs) (y :: ys) := ⟨fun B B' U w u k => by
 simp only [dreps] at k ⊢
 obtain ⟨a, b, e, k1, k2⟩ := k
 exact ⟨a, b, e, h.le _ _ _ _ _ k1, hs.le _ _ _ _ _ k2⟩⟩
instance {xs ys : List D} [hs : El xs ys] : DL (.agg xs) (.agg ys) := ⟨fun B B' U w u k => by
 simp only [drep] at k ⊢
 obtain ⟨cs, e, k⟩ := k
 exact ⟨cs, e, hs.le _ _ _ _ _ k⟩⟩
instance {xs ys : List D} [hs : El xs ys] : DL (.tup xs) (.tup ys) := ⟨fun B B' U w u k => by
 simp only [drep] at k ⊢
 obtain ⟨cs, e, k⟩ := k
 exact ⟨cs, e, hs.le _ _ _ _ _ k⟩⟩
instance {t : TypeId} {x y : D} [hs : DL x y] : DL (.ifc t x) (.ifc t y) := ⟨fun B B' U w u k => by
 simp only [drep] at k ⊢
 obtain ⟨cs, e, k⟩ := k
 exact ⟨cs, e, hs.le _ _ _ _ _ k⟩⟩
instance {xs ys : List D} [hs : El xs ys] : DL (.pt xs) (.pt ys) := ⟨fun B B' U w u k => by
 simp only [drep] at k ⊢
 obtain ⟨b, o, cs, e, k1, k2⟩ := k
 exact ⟨b, o, cs, e, k1, hs.le _ _ _ _ _ k2⟩⟩
instance (f : FuncId) : DL (.lit (.func (.func f) #[] #[])) (.fn f [] []) := ⟨fun B B' U w u k => by
 simp only [drep, dreps] at k ⊢
 exact ⟨[], [], k, rfl, rfl⟩⟩
instance {f : FuncId} {xs ys xs' ys' : List D} [hs : El xs ys] [hs' : El xs' ys'] : DL (.fn f xs xs') (.fn f ys ys') := ⟨fun B B' U w u k => by
 simp only [drep] at k ⊢
 obtain ⟨a, b, e, k1, k2⟩ := k
 exact ⟨a, b, e, hs.le _ _ _ _ _ k1, hs'.le _ _ _ _ _ k2⟩⟩
theorem Acq {c f : Bool} {x y : List (List D)} (hs : CO x y) : ∀ B B' U w u, drep B U w (.sl c f x) u → drep B' U w (.sl false false y) u := fun B B' U w u k => by
 simp only [drep] at k ⊢
 obtain ⟨a, cap, cs, e1, e2, e3, e4, e5, ⟨sz, e6⟩, e0, e7, e8⟩ := k
 refine ⟨a, cap, cs, by rw [e1, hs.len], by rw [← hs.len]; exact e2, e3, (fun h => by cases h), e5, ⟨sz, hs.sz sz e6⟩, e0, e7.imp fun b h => ⟨h.1, fun h => by cases h⟩, hs.le _ _ _ _ _ e8⟩
instance {c f : Bool} {x y : List (List D)} [hs : CO x y] : DL (.sl c f x) (.sl false false y) := ⟨Acq hs⟩
theorem BM {α : Type} (l : List α) (f g : α → List D) (h : ∀ x, El (f x) (g x)) (hl : ∀ x, (f x).length = (g x).length) : CO (l.map f) (l.map g) := by
 refine ⟨?_, by simp, fun n hn c hc => ?_⟩
 ·induction l with
  | nil => intro B B' U w u k; simp only [List.map_nil, drepss] at k ⊢; exact k
  | cons x l ih =>
   intro B B' U w u k
   simp only [List.map_cons, drepss] at k ⊢
   obtain ⟨c1, c2, e, k1, k2⟩ := k
   exact ⟨c1, c2, e, (h x).le _ _ _ _ _ k1, ih _ _ _ _ _ k2⟩
 ·simp only [List.mem_map] at hc
  obtain ⟨x, hx, rfl⟩ := hc
  rw [← hl]; exact hn _ (List.mem_map.2 ⟨x, hx, rfl⟩)
instance {α : Type} (l : List α) (f : α → Value) : CO (l.map fun x => [D.lit (f x)]) (l.map fun x => [D.lit (f x)]) := BM l _ _ (fun _ => inferInstance) (fun _ => rfl)
instance {c f : Bool} : DL (.lit (.slice none 0 0)) (.sl c f []) := ⟨fun B B' U w u h => NS c f B' U w u (by simp only [drep] at h ⊢; exact h)⟩
instance : CO [] [] := ⟨fun _ _ _ _ _ h => by simp only [drepss] at h ⊢; exact h, rfl, fun _ _ c hc => by simp at hc⟩
theorem Dj : El [] [] := inferInstance
theorem CN {x y : D} {xs ys : List D} (h : DL x y) (hs : El xs ys) : El (x :: xs) (y :: ys) := inferInstance
theorem Ex (v : Value) : DL (.lit v) (.lit v) := inferInstance
theorem Ez {xs ys : List D} (h : El xs ys) : DL (.agg xs) (.agg ys) := inferInstance
theorem Gk (f : FuncId) : DL (.lit (.func (.func f) #[] #[])) (.fn f [] []) := inferInstance
theorem Gj {xs ys : List D} (h : El xs ys) : DL (.pt xs) (.pt ys) := inferInstance
theorem Gl {f : FuncId} {xs ys xs' ys' : List D} (h : El xs ys) (h' : El xs' ys') : DL (.fn f xs xs') (.fn f ys ys') := inferInstance
theorem Ey {t : TypeId} {x y : D} (h : DL x y) : DL (.ifc t x) (.ifc t y) := inferInstance
theorem BN {c f : Bool} {x : List (List D)} (h : CO x x) : DL (.sl c f x) (.sl false false x) := inferInstance
mutual
/-- data out of a value, to be handed on -/
def Fz (st : List E) : V → Option D
 | .d x => some x
 | .agg l => match M7 st l with
  | some ds => some (.agg ds)
  | none => none
 | .row k ver => match Az k st with
  | some (o, nw, v, _, _, l) => (match o with
   | true => none
   | false => (match Nat.beq ver v with
    | true => some (.sl false nw l)
    | false => none))
  | none => none
 | .ifc t x => match Fz st x with
  | some d => some (.ifc t d)
  | none => none
 | .fn f [] [] => some (.lit (.func f #[] #[]))
 | .ep l => some (.pt l)
 | _ => none
def M7 (st : List E) : List V → Option (List D)
 | [] => some []
 | v :: vs => match Fz st v with
  | none => none
  | some d => (match M7 st vs with
   | none => none
   | some ds => some (d :: ds))
end
section
variable {B : Nat} {g : G} {w : World} {st : List E}
mutual
theorem EO (h : AC B g w st) : ∀ {v : V} {d : D}, Fz st v = some d → ∀ {u : Value}, vrep B g w v u → drep B g.prot w d u
 | .d x, d, hd, u, hu => by simp only [Fz, Option.some.injEq] at hd; subst hd; simp only [vrep] at hu; exact hu
 | .agg l, d, hd, u, hu => by
  simp only [Fz] at hd
  split at hd
  ·rename_i ds hds; cases hd
   simp only [vrep] at hu
   obtain ⟨cs, e, k⟩ := hu
   simp only [drep]
   exact ⟨cs, e, JR h hds k⟩
  ·cases hd
 | .row k ver, d, hd, u, hu => by
  simp only [Fz] at hd
  split at hd
  ·rename_i o nw v e sz l hr
   cases o with
   | true => simp at hd
   | false =>
    simp only at hd
    split at hd
    ·rename_i hb
     have := Nat.eq_of_beq_eq_true hb
     subst this
     cases hd
     simp only [vrep] at hu
     obtain ⟨v', xs, h1, h2, h3, _, h4⟩ := h.row hr
     rw [hu.1] at h1; cases h1
     rcases h4 with ⟨h4, _⟩ | ⟨_, h4, h5⟩
     ·cases h4
     ·exact h5
    ·cases hd
  ·cases hd
 | .ifc t x, d, hd, u, hu => by
  simp only [Fz] at hd
  split at hd
  ·rename_i y hy; cases hd
   simp only [vrep] at hu
   obtain ⟨z, e, k⟩ := hu
   simp only [drep]
   exact ⟨z, e, EO h hy k⟩
  ·cases hd
 | .fn f [] [], d, hd, u, hu => by
  simp only [Fz, Option.some.injEq] at hd; subst hd
  simp only [vrep, vreps] at hu
  obtain ⟨xs, ys, e, rfl, rfl⟩ := hu
  simp only [drep]; exact e
 | .fn f (_ :: _) _, d, hd, _, _ => by simp [Fz] at hd
 | .fn f [] (_ :: _), d, hd, _, _ => by simp [Fz] at hd
 | .ptr _ _, d, hd, _, _ => by simp [Fz] at hd
 | .ep l, d, hd, u, hu => by
  simp only [Fz, Option.some.injEq] at hd; subst hd
  simp only [vrep] at hu
  obtain ⟨b, o, cs, e, k1, k2⟩ := hu
  simp only [drep]
  exact ⟨b, o, cs, e, k1.imp fun b hb => ⟨hb, trivial⟩, k2⟩
 | .sv _ _ _ _ _, d, hd, _, _ => by simp [Fz] at hd
 | .tup _, d, hd, _, _ => by simp [Fz] at hd
 | .rp _ _ _ _ _, d, hd, _, _ => by simp [Fz] at hd
theorem JR (h : AC B g w st) : ∀ {v : List V} {d : List D}, M7 st v = some d → ∀ {u : List Value}, vreps B g w v u → dreps B g.prot w d u
 | [], d, hd, u, hu => by simp only [M7, Option.some.injEq] at hd; subst hd; simp only [vreps] at hu; simp only [dreps]; exact hu
 | v :: vs, d, hd, u, hu => by
  simp only [M7] at hd
  split at hd
  ·cases hd
  ·rename_i x hx
   split at hd
   ·cases hd
   ·rename_i xs hxs
    cases hd
    simp only [vreps] at hu
    obtain ⟨y, ys, e, k1, k2⟩ := hu
    simp only [dreps]
    exact ⟨y, ys, e, EO h hx k1, JR h hxs k2⟩
end
end
def AY (s : St) : List Operand → Option (List V)
 | [] => some []
 | x :: xs => match Af s x with
  | none => none
  | some v => (match AY s xs with
   | none => none
   | some vs => some (v :: vs))
theorem Dg.evals {cx : Cx} {s : St} {g : G} {a : Act} {w : World} (h : Dg cx g a w s) : ∀ {xs : List Operand} {vs : List V}, AY s xs = some vs → vreps cx.B g w vs (xs.map a.eval)
 | [], vs, hv => by simp only [AY, Option.some.injEq] at hv; subst hv; simp [vreps]
 | x :: xs, vs, hv => by
  simp only [AY] at hv
  split at hv
  ·cases hv
  ·rename_i v h1
   split at hv
   ·cases hv
   ·rename_i vs' h2
    cases hv
    simp only [List.map_cons, vreps]
    exact ⟨_, _, rfl, h.eval h1, Dg.evals h h2⟩
def G.addRw (g : G) (k : Nat) (u : Value) : G := ⟨g.ex, g.bx, fun i => if i = k then u.ownBlock else g.rb i, fun i v => if i = k then (if v = 0 then some u else none) else g.rw i v, g.pl, g.plex⟩
theorem Ea {B : Nat} {g : G} {w w' : World} {nb k : Nat} (hi : CG B nb g w) (hf : Mb g k) (hkn : k < nb) (hw : Below w.heap.size w w') {e : TypeId} {sz : Nat} {l : List (List D)} {u : Value} {xs : List Value}
  (h1 : drepss B (fun b => g.prot b ∧ some b ≠ u.ownBlock) w' l xs) (h2 : (∀ x ∈ l, x.length = sz) ∧ ∀ u ∈ xs, u.oneCell' = true) (h3 : w'.ownsRow w.heap.size e sz u l.length xs) :
  New B g w (g.addRw k u) w' k ∧ AC B (g.addRw k u) w' [.r true true k 0 e sz l] ∧ CG B nb (g.addRw k u) w' ∧ vrep B (g.addRw k u) w' (.row k 0) u := by
 have hnew : ∀ b, u.ownBlock = some b → w.heap.size ≤ b ∧ b < w'.heap.size := fun b hb => h3.lt b hb
 have hrw : ∀ {i j v}, g.rw i j = some v → (g.addRw k u).rw i j = some v := fun {i j v} h => by
  simp only [G.addRw]; rw [if_neg (fun e => by subst e; rw [hf.2.2] at h; cases h)]; exact h
 have hown : ∀ b, (g.addRw k u).own b → g.own b ∨ u.ownBlock = some b := fun b ho => by
  rcases ho with ho | ⟨i, hk⟩ | ⟨i, hk⟩
  ·exact .inl (.inl ho)
  ·exact .inl (.inr (.inl ⟨i, hk⟩))
  ·simp only [G.addRw] at hk
   split at hk
   ·exact .inr hk
   ·exact .inl (.inr (.inr ⟨i, hk⟩))
 have hE : BZ B g w (g.addRw k u) w' := ⟨hw.os, hw.tape, hw.output, hw.size, id, hrw, fun b hb hp => ⟨fun ho => by
  rcases hown b ho with h | h
  ·exact hp h
  ·have := (hnew b h).1; omega, hw.block b hb⟩, fun _ h => h, fun b hb => hw.block b (hi.exlt hb), .refl⟩
 have hone : u.oneCell' = true := by
  rcases h3.2 with ⟨rfl, _⟩ | ⟨b, c, cur, rfl, _⟩ <;> rfl
 have hu : (g.addRw k u).rw k 0 = some u := by simp [G.addRw]
 refine ⟨⟨hE, fun b hb => hw.block b hb, fun i hne => ⟨rfl, by simp [G.addRw, hne], by funext j; simp [G.addRw, hne]⟩⟩, ⟨fun {i o x} hc => by simp [Aq] at hc, fun {i o nw ver e' sz' l'} hr => ?_, fun hl => by simp [Au] at hl⟩, ⟨fun {i b} h => ?_, fun {i b} h => ?_, fun {i j v} h => ?_, hi.bxinj, fun {i i' b} h h' => ?_, fun {i i' b} h h' => ?_, fun h => by have := hi.exlt h; have := hw.size; omega, hi.exbx, fun {i b} h he => ?_, hi.plB, Nat.le_trans hi.base hw.size⟩, by simp only [vrep]; exact ⟨hu, hone⟩⟩
 ·simp only [Az] at hr
  split at hr
  ·rename_i hb
   have := Nat.eq_of_beq_eq_true hb
   subst this
   cases hr
   refine ⟨u, xs, hu, AL (Nat.le_refl _) (fun b _ hb => ⟨fun ho => ?_, rfl⟩) h1, ⟨h2.1, h2.2, fun j v' hv => (by simp only [G.addRw, if_true] at hv; split at hv <;> first | omega | cases hv)⟩, (fun _ b hb => Nat.le_trans hi.base (hnew b hb).1), .inl ⟨rfl, E7 h3 (Nat.zero_le _), by simp [G.addRw]⟩⟩
   rcases hown b ho with h | h
   ·exact hb.1 h
   ·exact hb.2 h.symm
  ·cases hr
 ·have := hi.bxlt h; have := hw.size; omega
 ·simp only [G.addRw] at h
  split at h
  ·have := hnew b h; omega
  ·have := hi.rblt h; have := hw.size; omega
 ·simp only [G.addRw] at h
  split at h
  ·omega
  ·exact hi.rwlt h
 ·simp only [G.addRw] at h h'
  split at h <;> split at h'
  ·omega
  ·have := hnew b h; have := (hi.rblt h').1; omega
  ·have := hnew b h'; have := (hi.rblt h).1; omega
  ·exact hi.rbinj h h'
 ·simp only [G.addRw] at h'
  split at h'
  ·have := hnew b h'; have := (hi.bxlt h).1; omega
  ·exact hi.apart h h'
 ·simp only [G.addRw] at h
  split at h
  ·have := hnew b h; have := hi.exlt he; omega
  ·exact hi.exrb h he
def Po : List V → List V → Option (List V)
 | [], l => some l
 | x :: xs, l => match Po xs l with
  | some r => some (x :: r)
  | none => none
theorem Gq : ∀ {a b c : List V}, Po a b = some c → c = a ++ b
 | [], b, c, h => by simp only [Po, Option.some.injEq] at h; rw [← h]; rfl
 | x :: xs, b, c, h => by
  simp only [Po] at h
  split at h
  ·rename_i r hr; cases h; rw [Gq hr]; rfl
  ·cases h
def GL : V → List V → Option (FuncId × List V)
 | .fn (.func f) fi ca, vs => (match Po vs ca with
  | some r => (match Po fi r with
   | some q => some (f, q)
   | none => none)
  | none => none)
 | .d (.lit (.func (.func f) ⟨[]⟩ ⟨[]⟩)), vs => some (f, vs)
 | .d (.fn f fi ca), vs => (match Po vs (ca.map .d) with
  | some r => (match Po (fi.map .d) r with
   | some q => some (f, q)
   | none => none)
  | none => none)
 | _, _ => none
theorem Pe {B : Nat} {g : G} {w : World} {v : V} {vs az : List V} {f : FuncId} (h : GL v vs = some (f, az)) {u : Value} (hu : vrep B g w v u) {us : List Value} (hus : vreps B g w vs us) :
  ∃ first cap, u = .func (.func f) first cap ∧ ∃ zs : List Value, (first ++ us.toArray) ++ cap = zs.toArray ∧ vreps B g w az zs := by
 unfold GL at h
 split at h
 ·rename_i f' fi ca vs'
  split at h
  ·rename_i r hr
   split at h
   ·rename_i q hq
    cases h
    simp only [vrep] at hu
    obtain ⟨xs, ys, rfl, k1, k2⟩ := hu
    refine ⟨_, _, rfl, xs ++ us ++ ys, by simp, ?_⟩
    rw [Gq hq, Gq hr, List.append_assoc]
    exact Em k1 (Em hus k2)
   ·cases h
  ·cases h
 ·cases h
  simp only [vrep, drep] at hu
  subst hu
  exact ⟨_, _, rfl, us, by simp, hus⟩
 ·rename_i f' fi ca vs'
  split at h
  ·rename_i r hr
   split at h
   ·rename_i q hq
    cases h
    simp only [vrep, drep] at hu
    obtain ⟨xs, ys, rfl, k1, k2⟩ := hu
    refine ⟨_, _, rfl, xs ++ us ++ ys, by simp, ?_⟩
    rw [Gq hq, Gq hr, List.append_assoc]
    exact Em (HK k1) (Em hus (HK k2))
   ·cases h
  ·cases h
 ·cases h
theorem EN {P : Program} {cx : Cx} {s : St} {g : G} {a : Act} {w : World} {dst : Option Tmp} {x : Operand} {xs : Array Operand} {tys : Array TypeId} {ty : TypeId} {pos : String} {af : Array Edge} {gd : Option (Nat × Bool)} {v : V} {f : FuncId} {vs az : List V}
  (hc : ∀ args w, (callFunc f args).run P w = .ok (.enter f args) w) (hS : Dg cx g a w s) (hx : Af s x = some v) (hv : AY s xs.toList = some vs) (hf : GL v vs = some (f, az)) :
  ∃ zs : List Value, (execOp a.eval ⟨dst, .call { callee := .value x, args := xs, argTypes := tys }, ty, pos, af, gd⟩).run P w = .ok (.enter f zs.toArray) w ∧ vreps cx.B g w az zs := by
 obtain ⟨first, cap, hu, zs, hz, hzs⟩ := Pe hf (hS.eval hx) (hS.evals hv)
 refine ⟨zs, ?_, hzs⟩
 have hx : (xs.toList.map a.eval).toArray = xs.map a.eval := by rw [← Array.toList_map, Array.toArray_toList]
 rw [hx] at hz
 rw [← hz]
 simp [execOp, resolve, hu, Deferred.ofValue, invoke, hc]
class FV (d : D) : Prop where
 le : ∀ B U w u, drep B U w d u → drep B (fun b => U b ∧ B ≤ b ∧ Pp w b) w d u
class Im (d : List D) : Prop where
 le : ∀ B U w u, dreps B U w d u → dreps B (fun b => U b ∧ B ≤ b ∧ Pp w b) w d u
class FN (d : List (List D)) : Prop where
 le : ∀ B U w u, drepss B U w d u → drepss B (fun b => U b ∧ B ≤ b ∧ Pp w b) w d u
instance (v : Value) : FV (.lit v) := ⟨fun _ _ _ _ h => by simp only [drep] at h ⊢; exact h⟩
instance : FV .any := ⟨fun _ _ _ _ _ => by simp only [drep]⟩
instance : Im [] := ⟨fun _ _ _ _ h => by simp only [dreps] at h ⊢; exact h⟩
instance {x : D} {xs : List D} [h : FV x] [hs : Im xs] : Im (x :: xs) := ⟨fun B U w u k => by
 simp only [dreps] at k ⊢
 obtain ⟨y, ys, e, k1, k2⟩ := k
 exact ⟨y, ys, e, h.le _ _ _ _ k1, hs.le _ _ _ _ k2⟩⟩
instance {xs : List D} [hs : Im xs] : FV (.agg xs) := ⟨fun B U w u k => by
 simp only [drep] at k ⊢
 obtain ⟨cs, e, k⟩ := k
 exact ⟨cs, e, hs.le _ _ _ _ k⟩⟩
instance {xs : List D} [hs : Im xs] : FV (.tup xs) := ⟨fun B U w u k => by
 simp only [drep] at k ⊢
 obtain ⟨cs, e, k⟩ := k
 exact ⟨cs, e, hs.le _ _ _ _ k⟩⟩
instance {t : TypeId} {x : D} [hs : FV x] : FV (.ifc t x) := ⟨fun B U w u k => by
 simp only [drep] at k ⊢
 obtain ⟨y, e, k⟩ := k
 exact ⟨y, e, hs.le _ _ _ _ k⟩⟩
instance {f : FuncId} {xs ys : List D} [hs : Im xs] [hs' : Im ys] : FV (.fn f xs ys) := ⟨fun B U w u k => by
 simp only [drep] at k ⊢
 obtain ⟨a, b, e, k1, k2⟩ := k
 exact ⟨a, b, e, hs.le _ _ _ _ k1, hs'.le _ _ _ _ k2⟩⟩
instance {c : Bool} {l : List (List D)} [hs : FN l] : FV (.sl c true l) := ⟨fun B U w u k => by
 simp only [drep] at k ⊢
 obtain ⟨a, cap, cs, e1, e2, e3, e4, e5, e6, e0, e7, e8⟩ := k
 exact ⟨a, cap, cs, e1, e2, e3, e4, e5, e6, e0, e7.imp fun b h => ⟨⟨h.1, h.2 rfl⟩, h.2⟩, hs.le _ _ _ _ e8⟩⟩
theorem OZ {l : List (List D)} (h : ∀ x ∈ l, Im x) : FN l := ⟨fun B U w u k => by
 induction l generalizing u with
 | nil => simpa only [drepss] using k
 | cons x xs ih =>
  simp only [drepss] at k ⊢
  obtain ⟨c1, c2, e, k1, k2⟩ := k
  exact ⟨c1, c2, e, (h x (by simp)).le _ _ _ _ k1, ih (fun y hy => h y (by simp [hy])) _ k2⟩⟩
instance {c f : Bool} : FV (.sl c f []) := ⟨fun B U w u k => by
 simp only [drep] at k ⊢
 obtain ⟨a, cap, cs, e1, e2, e3, e4, e5, e6, e0, e7, e8⟩ := k
 simp only [drepss] at e8
 subst e8
 exact ⟨a, cap, [], e1, e2, e3, e4, e5, e6, e0, fun j u hj => by simp at hj, by simp only [drepss]⟩⟩
instance : FN [] := OZ fun _ h => by simp at h
instance {x : List D} {l : List (List D)} [h : Im x] [hs : FN l] : FN (x :: l) := ⟨fun B U w u k => by
 simp only [drepss] at k ⊢
 obtain ⟨c1, c2, e, k1, k2⟩ := k
 exact ⟨c1, c2, e, h.le _ _ _ _ k1, hs.le _ _ _ _ k2⟩⟩
instance HU {α : Type} (l : List α) (f : α → List D) [h : ∀ x, Im (f x)] : FN (l.map f) := OZ fun x hx => by obtain ⟨n, _, rfl⟩ := List.mem_map.1 hx; exact h n
def AdA : R → Prop
 | .ret d | .panic d => FV d
 | .own _ _ l => FN l
structure AD (st : List E) (vs : List V) (ds : List D) : Prop where
 h : ∀ B g w us, AC B g w st → vreps B g w vs us → dreps B g.prot w ds us
theorem Jl {st : List E} {vs : List V} {ds : List D} (h : M7 st vs = some ds) : AD st vs ds := ⟨fun _ _ _ _ hs hv => JR hs h hv⟩
theorem HD {st : List E} : AD st [] [] := Jl rfl
theorem FM {st : List E} {v : V} {vs : List V} {d : D} {ds : List D} (h : Fz st v = some d) (hs : AD st vs ds) : AD st (v :: vs) (d :: ds) := ⟨fun B g w us h1 h2 => by
 simp only [vreps] at h2
 simp only [dreps]
 obtain ⟨y, ys, e, k1, k2⟩ := h2
 exact ⟨y, ys, e, EO h1 h k1, hs.h _ _ _ _ h1 k2⟩⟩
theorem HE {st : List E} {ds : List D} : AD st (ds.map .d) ds := ⟨fun B g w us _ h2 => by
 induction ds generalizing us with
 | nil => simp only [List.map_nil, vreps] at h2; simp only [dreps]; exact h2
 | cons d ds ih =>
  simp only [List.map_cons, vreps] at h2
  simp only [dreps]
  obtain ⟨y, ys, e, k1, k2⟩ := h2
  exact ⟨y, ys, e, (by simpa only [vrep] using k1), ih _ k2⟩⟩
section
variable {P : Program} {cx : Cx} {s : St} {Q : VE → St → Prop} {ops rest : List Oper}
theorem Nc {t : Tmp} {x : Operand} {f : FuncId} {xs : Array Operand} {tys : Array TypeId} {ty : TypeId} {pos : String} {af : Array Edge} {gd : Option (Nat × Bool)} {v : V} {vs az : List V} {ds' ds : List D} {post : R → Prop}
  (hx : Af s x = some v) (hv : AY s xs.toList = some vs) (hf : GL v vs = some (f, az)) (ha : AD s.st az ds') (hd : El ds' ds) (hc : VP P f ds post) (hw : Wd ops s.tm gd) (ht : Nat.blt t cx.N = true)
  (k1 : ∀ d, post (.ret d) → VL P cx ops rest ⟨(t, .d d) :: s.tm, s.st, s.nb⟩ Q) (k2 : ∀ e sz l, post (.own e sz l) → VL P cx ops rest ⟨(t, .row s.nb 0) :: s.tm, (.r true true s.nb 0 e sz l) :: s.st, s.nb + 1⟩ Q)
  (k3 : ∀ d, post (.panic d) → Q (.panic (.d d)) s) : VL P cx ops (⟨some t, .call { callee := .value x, args := xs, argTypes := tys }, ty, pos, af, gd⟩ :: rest) s Q := fun n g0 w0 g a w hE hS => by
 simp only [BH]
 rw [if_pos (Wd.wanted (o := ⟨some t, _, ty, pos, af, gd⟩) hS hw)]
 refine ⟨fun _ _ => trivial, ?_⟩
 rw [Oper.semAt_plain (FW cx.rd) _ _ (by intro c e; cases e)]
 obtain ⟨zs, hrun, hzs⟩ := EN (P := P) (w := w) (dst := some t) (tys := tys) (ty := ty) (pos := pos) (af := af) (gd := gd) hc.1 hS hx hv hf
 rw [hrun, Oper.uponIn_enter]
 refine ⟨(fun h => by cases h), ?_⟩
 have hargs := hd.le _ w.heap.size _ _ _ (ha.h _ _ _ _ hS.st hzs)
 have hcall := hc.2 g.prot w _ hargs
 have hmem : ∀ (r : Ending → World → Prop), Calls P f zs.toArray w r → CallsIn (FW cx.rd) (n - 1) P f zs.toArray w r := fun r h =>
  ⟨trivial, fun cs _ => by
   obtain ⟨e, w', fr, hr, hcm, hx⟩ := h cs
   refine ⟨e, w', fr, hr, ?_, hx⟩
   have := comesIn_wide.2 hcm
   cases e with
   | returned v => exact StepsIn.mono (fun m _ => Bh P cx.rd m) this
   | panicked ch => exact StepsIn.mono (fun m _ => Bh P cx.rd m) this
   | outgrown => exact this⟩
 refine (hmem _ hcall).mono ?_
 rintro e w' ⟨hb, r, hp, hr⟩
 have hEv : BZ cx.B g w g w' := BZ.of_below hS.inv hb
 have hpr : ∀ b, g.prot b ∨ w.heap.size ≤ b → g.prot b := fun b h => by
  rcases h with h | h
  ·exact h
  ·rintro (ho | ⟨k, ho⟩ | ⟨k, ho⟩)
   ·have := hS.inv.exlt ho; omega
   ·have := (hS.inv.bxlt ho).1; omega
   ·have := (hS.inv.rblt ho).1; omega
 have hst : AC cx.B g w' s.st := ⟨fun {k o x} hc => by
   obtain ⟨b, rcs, ty, u, m1, m2, m3, m4⟩ := hS.st.cell hc
   exact ⟨b, rcs, ty, u, m1, (hb.block b (hS.inv.bxlt m1).1).trans m2, m3, hEv.vrep m4⟩,
  fun hr => hS.st.keepRow hEv (x := none) ⟨hb.os, hb.tape, hb.output, hb.size, fun b hb' _ => hb.block b hb'⟩ rfl rfl (by simp) hr,
  fun hl => by
   obtain ⟨h1, h2⟩ := hS.st.loop hl
   exact ⟨fun lp e => let ⟨b, m1, m2⟩ := h1 lp e; ⟨b, m1, (hb.block b (hS.inv.bxlt m1).1).trans m2⟩, fun ht => hEv.vrep (h2 ht)⟩⟩
 cases r with
 | ret d =>
  obtain ⟨u, rfl, hu⟩ := hr
  have hu' : vrep cx.B g w' (.d d) u := by simp only [vrep]; exact A4 hS.inv.base (fun b _ h => ⟨hpr b h, rfl⟩) hu
  exact k1 d hp n g0 w0 g _ w' (hE.trans hEv) (hS.put hEv (Nat.le_of_ble_eq_true ht) hst (hS.inv.evo hb.size) hu')
 | own e sz l =>
  obtain ⟨u, xs', rfl, h1, h2, h3⟩ := hr
  have hup := hS.inv.up (Nat.le_succ s.nb)
  obtain ⟨m1, m2, m3, m4⟩ := Ea hup hS.inv.free (Nat.lt_succ_self _) hb (AL hS.inv.base (fun b _ h => ⟨⟨hpr b h.1, h.2⟩, rfl⟩) h1) h2 h3
  exact k2 e sz l hp n g0 w0 _ _ w' (hE.trans m1.evo) (hS.put m1.evo (Nat.le_of_ble_eq_true ht) (m2.cons (hS.st.new m1 hup hS.inv.free)) m3 m4)
 | panic d =>
  obtain ⟨u, rfl, hu⟩ := hr
  have hu' : vrep cx.B g w' (.d d) u := by simp only [vrep]; exact A4 hS.inv.base (fun b _ h => ⟨hpr b h, rfl⟩) hu
  exact ⟨g, s, .panic (.d d), hE.trans hEv, hS.same hEv hst (hS.inv.evo hb.size), ⟨u, rfl, hu'⟩, k3 d hp⟩
theorem Tg {t : Tmp} {x : Operand} {f : FuncId} {xs : Array Operand} {tys : Array TypeId} {ty : TypeId} {pos : String} {af : Array Edge} {gd : Option (Nat × Bool)} {v : V} {vs az : List V} {ds' ds : List D} {d : D}
  (hc : VP P f ds (· = .ret d)) (hx : Af s x = some v) (hv : AY s xs.toList = some vs) (hf : GL v vs = some (f, az)) (ha : AD s.st az ds') (hd : El ds' ds) (hw : Wd ops s.tm gd) (ht : Nat.blt t cx.N = true)
  (k : VL P cx ops rest ⟨(t, .d d) :: s.tm, s.st, s.nb⟩ Q) : VL P cx ops (⟨some t, .call { callee := .value x, args := xs, argTypes := tys }, ty, pos, af, gd⟩ :: rest) s Q :=
 Nc hx hv hf ha hd hc hw ht (fun _ e => by cases e; exact k) (fun _ _ _ e => by cases e) (fun _ e => by cases e)
theorem Zj {t : Tmp} {x : Operand} {f : FuncId} {xs : Array Operand} {tys : Array TypeId} {ty : TypeId} {pos : String} {af : Array Edge} {gd : Option (Nat × Bool)} {v : V} {vs az : List V} {ds' ds : List D} {e : TypeId} {sz : Nat} {l : List (List D)}
  (hc : VP P f ds (· = .own e sz l)) (hx : Af s x = some v) (hv : AY s xs.toList = some vs) (hf : GL v vs = some (f, az)) (ha : AD s.st az ds') (hd : El ds' ds) (hw : Wd ops s.tm gd) (ht : Nat.blt t cx.N = true)
  (k : VL P cx ops rest ⟨(t, .row s.nb 0) :: s.tm, (.r true true s.nb 0 e sz l) :: s.st, s.nb + 1⟩ Q) : VL P cx ops (⟨some t, .call { callee := .value x, args := xs, argTypes := tys }, ty, pos, af, gd⟩ :: rest) s Q :=
 Nc hx hv hf ha hd hc hw ht (fun _ e => by cases e) (fun _ _ _ e => by cases e; exact k) (fun _ e => by cases e)
theorem Th {t : Tmp} {x : Operand} {f : FuncId} {xs : Array Operand} {tys : Array TypeId} {ty : TypeId} {pos : String} {af : Array Edge} {gd : Option (Nat × Bool)} {v : V} {vs az : List V} {ds' ds : List D} {d : D}
  (hc : VP P f ds (· = .panic d)) (hx : Af s x = some v) (hv : AY s xs.toList = some vs) (hf : GL v vs = some (f, az)) (ha : AD s.st az ds') (hd : El ds' ds) (hw : Wd ops s.tm gd) (ht : Nat.blt t cx.N = true)
  (k : Q (.panic (.d d)) s) : VL P cx ops (⟨some t, .call { callee := .value x, args := xs, argTypes := tys }, ty, pos, af, gd⟩ :: rest) s Q :=
 Nc hx hv hf ha hd hc hw ht (fun _ e => by cases e) (fun _ _ _ e => by cases e) (fun _ e => by cases e; exact k)
theorem Nb {t : Tmp} {x : Operand} {f : FuncId} {xs : Array Operand} {tys : Array TypeId} {ty : TypeId} {pos : String} {af : Array Edge} {gd : Option (Nat × Bool)} {v : V} {vs az : List V} {ds' ds : List D} {r : R}
  (hc : VP P f ds (· = r)) (hx : Af s x = some v) (hv : AY s xs.toList = some vs) (hf : GL v vs = some (f, az)) (ha : C2 s.st 64 az = some ds') (hd : El ds' ds) (hfl : AdA r) (hw : Wd ops s.tm gd) (ht : Nat.blt t cx.N = true)
  (k1 : ∀ d, r = .ret d → VL P cx ops rest ⟨(t, .d d) :: s.tm, s.st, s.nb⟩ Q) (k2 : ∀ e sz l, r = .own e sz l → VL P cx ops rest ⟨(t, .row s.nb 0) :: s.tm, (.r true true s.nb 0 e sz l) :: s.st, s.nb + 1⟩ Q) (k3 : ∀ d, r = .panic d → Q (.panic (.d d)) s) :
  VL P cx ops (⟨some t, .call { callee := .value x, args := xs, argTypes := tys }, ty, pos, af, gd⟩ :: rest) s Q := fun n g0 w0 g a w hE hS => by
 simp only [BH]
 rw [if_pos (Wd.wanted (o := ⟨some t, _, ty, pos, af, gd⟩) hS hw)]
 refine ⟨fun _ _ => trivial, ?_⟩
 rw [Oper.semAt_plain (FW cx.rd) _ _ (by intro c e; cases e)]
 obtain ⟨zs, hrun, hzs⟩ := EN (P := P) (w := w) (dst := some t) (tys := tys) (ty := ty) (pos := pos) (af := af) (gd := gd) hc.1 hS hx hv hf
 rw [hrun, Oper.uponIn_enter]
 refine ⟨(fun h => by cases h), ?_⟩
 have hargs := hd.le _ w.heap.size _ _ _ (Ci hS.inv hS.st (fun _ _ => trivial) ha hzs)
 have hcall := hc.2 (fun _ => True) w _ hargs
 have hmem : ∀ (r : Ending → World → Prop), Calls P f zs.toArray w r → CallsIn (FW cx.rd) (n - 1) P f zs.toArray w r := fun r h =>
  ⟨trivial, fun cs _ => by
   obtain ⟨e, w', fr, hr, hcm, hx⟩ := h cs
   refine ⟨e, w', fr, hr, ?_, hx⟩
   have := comesIn_wide.2 hcm
   cases e with
   | returned v => exact StepsIn.mono (fun m _ => Bh P cx.rd m) this
   | panicked ch => exact StepsIn.mono (fun m _ => Bh P cx.rd m) this
   | outgrown => exact this⟩
 refine (hmem _ hcall).mono ?_
 rintro e w' ⟨hb, r', rfl, hr⟩
 have hEv : BZ cx.B g w g w' := BZ.of_below hS.inv hb
 have hpr : ∀ b, w.heap.size ≤ b → g.prot b := fun b h => by
  rintro (ho | ⟨k, ho⟩ | ⟨k, ho⟩)
  ·have := hS.inv.exlt ho; omega
  ·have := (hS.inv.bxlt ho).1; omega
  ·have := (hS.inv.rblt ho).1; omega
 have hst : AC cx.B g w' s.st := ⟨fun {k o x} hc => by
   obtain ⟨b, rcs, ty, u, m1, m2, m3, m4⟩ := hS.st.cell hc
   exact ⟨b, rcs, ty, u, m1, (hb.block b (hS.inv.bxlt m1).1).trans m2, m3, hEv.vrep m4⟩,
  fun hr => hS.st.keepRow hEv (x := none) ⟨hb.os, hb.tape, hb.output, hb.size, fun b hb' _ => hb.block b hb'⟩ rfl rfl (by simp) hr,
  fun hl => by
   obtain ⟨h1, h2⟩ := hS.st.loop hl
   exact ⟨fun lp e => let ⟨b, m1, m2⟩ := h1 lp e; ⟨b, m1, (hb.block b (hS.inv.bxlt m1).1).trans m2⟩, fun ht => hEv.vrep (h2 ht)⟩⟩
 cases r' with
 | ret d =>
  obtain ⟨u, rfl, hu⟩ := hr
  have hu' : vrep cx.B g w' (.d d) u := by simp only [vrep]; exact A4 hS.inv.base (fun b _ h => ⟨hpr b h.2.1, rfl⟩) (FV.le (self := hfl) _ _ _ _ hu)
  exact k1 d rfl n g0 w0 g _ w' (hE.trans hEv) (hS.put hEv (Nat.le_of_ble_eq_true ht) hst (hS.inv.evo hb.size) hu')
 | own e sz l =>
  obtain ⟨u, xs', rfl, h1, h2, h3⟩ := hr
  have hup := hS.inv.up (Nat.le_succ s.nb)
  obtain ⟨m1, m2, m3, m4⟩ := Ea hup hS.inv.free (Nat.lt_succ_self _) hb (AL hS.inv.base (fun b _ h => ⟨⟨hpr b h.2.1, h.1.2⟩, rfl⟩) (FN.le (self := hfl) _ _ _ _ h1)) h2 h3
  exact k2 e sz l rfl n g0 w0 _ _ w' (hE.trans m1.evo) (hS.put m1.evo (Nat.le_of_ble_eq_true ht) (m2.cons (hS.st.new m1 hup hS.inv.free)) m3 m4)
 | panic d =>
  obtain ⟨u, rfl, hu⟩ := hr
  have hu' : vrep cx.B g w' (.d d) u := by simp only [vrep]; exact A4 hS.inv.base (fun b _ h => ⟨hpr b h.2.1, rfl⟩) (FV.le (self := hfl) _ _ _ _ hu)
  exact ⟨g, s, .panic (.d d), hE.trans hEv, hS.same hEv hst (hS.inv.evo hb.size), ⟨u, rfl, hu'⟩, k3 d rfl⟩
end

def I6 : IntKind → Int → Prop
 | .i8, n => -128 ≤ n ∧ n ≤ 127
 | .i16, n => -32768 ≤ n ∧ n ≤ 32767
 | .i32, n => -2147483648 ≤ n ∧ n ≤ 2147483647
 | .i64, n => -9223372036854775808 ≤ n ∧ n ≤ 9223372036854775807
 | .u8, n => 0 ≤ n ∧ n ≤ 255
 | .u16, n => 0 ≤ n ∧ n ≤ 65535
 | .u32, n => 0 ≤ n ∧ n ≤ 4294967295
 | .u64, n => 0 ≤ n ∧ n ≤ 18446744073709551615
theorem CR {k : IntKind} {n : Int} (h : I6 k n) : k.wrap n = n := by
 cases k <;> simp only [I6] at h
 ·exact IntWalk.i8_in n h
 ·exact IntWalk.i16_in n h
 ·exact IntWalk.i32_in n h
 ·exact IntWalk.i64_in n h
 ·exact IntWalk.u8_in n h
 ·exact IntWalk.u16_in n h
 ·exact IntWalk.u32_in n h
 ·exact IntWalk.u64_in n h
section
variable {P : Program} {cx : Cx} {s : St} {Q : VE → St → Prop} {ops rest : List Oper}
abbrev I (k : IntKind) (n : Int) : V := .d (.lit (.int k n))
theorem UR {t yt ty : TypeId} {x y : Operand} {k : IntKind} {a b : Int} (hx : Af s x = some (I k a)) (hy : Af s y = some (I k b)) (h : I6 k (a + b)) : Bq P cx (.binOp .add t x y yt) ty s (I k (a + b)) := by
 refine FD hx hy fun w => ?_
 have : (do eqGuard .add t x y (.int k a) (.int k b); binOp .add t (.int k a) (.int k b) : Sem Value) = pure (.int k (k.wrap (a + b))) := by simp [eqGuard, binOp, Op.intArith]
 rw [this, CR h]; rfl
theorem Ux {t yt ty : TypeId} {x y : Operand} {k : IntKind} {a b : Int} (hx : Af s x = some (I k a)) (hy : Af s y = some (I k b)) (h : I6 k (a - b)) : Bq P cx (.binOp .sub t x y yt) ty s (I k (a - b)) := by
 refine FD hx hy fun w => ?_
 have : (do eqGuard .sub t x y (.int k a) (.int k b); binOp .sub t (.int k a) (.int k b) : Sem Value) = pure (.int k (k.wrap (a - b))) := by simp [eqGuard, binOp, Op.intArith]
 rw [this, CR h]; rfl
theorem UD {t yt ty : TypeId} {x y : Operand} {k : IntKind} {a b : Int} (hx : Af s x = some (I k a)) (hy : Af s y = some (I k b)) (h : I6 k (a * b)) : Bq P cx (.binOp .mul t x y yt) ty s (I k (a * b)) := by
 refine FD hx hy fun w => ?_
 have : (do eqGuard .mul t x y (.int k a) (.int k b); binOp .mul t (.int k a) (.int k b) : Sem Value) = pure (.int k (k.wrap (a * b))) := by simp [eqGuard, binOp, Op.intArith]
 rw [this, CR h]; rfl
theorem ZX {t yt ty : TypeId} {x y : Operand} {k : IntKind} {a b : Int} (hx : Af s x = some (I k a)) (hy : Af s y = some (I k b)) : Bq P cx (.binOp .eql t x y yt) ty s (.d (.lit (.bool (decide (a = b))))) := by
 refine FD hx hy fun w => ?_
 have : (do eqGuard .eql t x y (.int k a) (.int k b); binOp .eql t (.int k a) (.int k b) : Sem Value) = pure (.bool (decide (a = b))) := by simp [eqGuard, binOp, Op.intCmp]; rfl
 rw [this]; rfl
theorem ZR {t yt ty : TypeId} {x y : Operand} {k : IntKind} {a b : Int} (hx : Af s x = some (I k a)) (hy : Af s y = some (I k b)) : Bq P cx (.binOp .neq t x y yt) ty s (.d (.lit (.bool (decide (a ≠ b))))) := by
 refine FD hx hy fun w => ?_
 have : (do eqGuard .neq t x y (.int k a) (.int k b); binOp .neq t (.int k a) (.int k b) : Sem Value) = pure (.bool (decide (a ≠ b))) := by
  simp only [eqGuard, binOp, Op.intCmp, ne_eq, not_true_eq_false, ↓reduceIte]
  have : (a != b) = decide (a ≠ b) := by by_cases h : a = b <;> simp [h]
  simp [this]
 rw [this]; rfl
theorem ZS {t yt ty : TypeId} {x y : Operand} {k : IntKind} {a b : Int} (hx : Af s x = some (I k a)) (hy : Af s y = some (I k b)) : Bq P cx (.binOp .lss t x y yt) ty s (.d (.lit (.bool (decide (a < b))))) := by
 refine FD hx hy fun w => ?_
 have : (do eqGuard .lss t x y (.int k a) (.int k b); binOp .lss t (.int k a) (.int k b) : Sem Value) = pure (.bool (decide (a < b))) := by simp [eqGuard, binOp, Op.intCmp]
 rw [this]; rfl
theorem ZT {t yt ty : TypeId} {x y : Operand} {k : IntKind} {a b : Int} (hx : Af s x = some (I k a)) (hy : Af s y = some (I k b)) : Bq P cx (.binOp .leq t x y yt) ty s (.d (.lit (.bool (decide (a ≤ b))))) := by
 refine FD hx hy fun w => ?_
 have : (do eqGuard .leq t x y (.int k a) (.int k b); binOp .leq t (.int k a) (.int k b) : Sem Value) = pure (.bool (decide (a ≤ b))) := by simp [eqGuard, binOp, Op.intCmp]
 rw [this]; rfl
theorem ZU {t yt ty : TypeId} {x y : Operand} {k : IntKind} {a b : Int} (hx : Af s x = some (I k a)) (hy : Af s y = some (I k b)) : Bq P cx (.binOp .gtr t x y yt) ty s (.d (.lit (.bool (decide (b < a))))) := by
 refine FD hx hy fun w => ?_
 have : (do eqGuard .gtr t x y (.int k a) (.int k b); binOp .gtr t (.int k a) (.int k b) : Sem Value) = pure (.bool (decide (b < a))) := by simp [eqGuard, binOp, Op.intCmp]
 rw [this]; rfl
theorem ZV {t yt ty : TypeId} {x y : Operand} {k : IntKind} {a b : Int} (hx : Af s x = some (I k a)) (hy : Af s y = some (I k b)) : Bq P cx (.binOp .geq t x y yt) ty s (.d (.lit (.bool (decide (b ≤ a))))) := by
 refine FD hx hy fun w => ?_
 have : (do eqGuard .geq t x y (.int k a) (.int k b); binOp .geq t (.int k a) (.int k b) : Sem Value) = pure (.bool (decide (b ≤ a))) := by simp [eqGuard, binOp, Op.intCmp]
 rw [this]; rfl
theorem PQ {t ty : TypeId} {x : Operand} (hx : Af s x = some (.d (.lit (.bool true)))) : Bq P cx (.unOp .not t x) ty s (.d (.lit (.bool false))) := PP hx fun _ => rfl
theorem PR {t ty : TypeId} {x : Operand} (hx : Af s x = some (.d (.lit (.bool false)))) : Bq P cx (.unOp .not t x) ty s (.d (.lit (.bool true))) := PP hx fun _ => rfl
theorem UA {t ty : TypeId} {x : Operand} {p : Prop} {_ : Decidable p} (hx : Af s x = some (.d (.lit (.bool (decide p))))) : Bq P cx (.unOp .not t x) ty s (.d (.lit (.bool (decide (¬ p))))) := by
 refine PP hx fun w => ?_
 have : (!decide p) = decide (¬ p) := by by_cases h : p <;> simp [h]
 rw [← this]; rfl
theorem UO {t yt ty : TypeId} {x y : Operand} {a b : Bool} [hB : Y6 P t] (hx : Af s x = some (.d (.lit (.bool a)))) (hy : Af s y = some (.d (.lit (.bool b)))) : Bq P cx (.binOp .eql t x y yt) ty s (.d (.lit (.bool (decide (a = b))))) := by
 refine FD hx hy fun w => ?_
 have h := run_equal_bool (P := P) (w := w) t a b hB.und
 simp only [eqGuard, binOp, Sem.run_bind, Sem.run_pure]
 simp [h]; rfl
theorem UC {t yt ty : TypeId} {x y : Operand} {a b : Bool} [hB : Y6 P t] (hx : Af s x = some (.d (.lit (.bool a)))) (hy : Af s y = some (.d (.lit (.bool b)))) : Bq P cx (.binOp .neq t x y yt) ty s (.d (.lit (.bool (decide (a ≠ b))))) := by
 refine FD hx hy fun w => ?_
 have h := run_equal_bool (P := P) (w := w) t a b hB.und
 simp only [eqGuard, binOp, Sem.run_bind, Sem.run_pure]
 simp [h]
 cases a <;> cases b <;> rfl
theorem NG {op : BinOp} {t yt ty : TypeId} {x y : Operand} {k k' : IntKind} {a b : Int} {u : Value} (hx : Af s x = some (I k a)) (hy : Af s y = some (I k' b)) (hr : ∀ w, (binOp op t (.int k a) (.int k' b) : Sem Value).run P w = .ok u w) : Bq P cx (.binOp op t x y yt) ty s (.d (.lit u)) := by
 refine FD hx hy fun w => ?_
 have : (eqGuard op t x y (.int k a) (.int k' b)).run P w = .ok () w := by
  unfold eqGuard
  cases op <;> simp
 rw [Sem.run_bind, this]
 exact hr w
theorem NE {t1 t2 ty : TypeId} {x : Operand} {k1 k2 : IntKind} {a : Int} [h1 : Jn P t1 k1] [h2 : Jn P t2 k2] (hx : Af s x = some (I k1 a)) (h : I6 k2 a) : Bq P cx (.convert t1 t2 x) ty s (I k2 a) := by
 refine UP hx fun w => ?_
 simp [convert, run_underlying h1.und w, run_underlying h2.und w, Conv.intToInt, CR h]
theorem ND {t1 t2 ty : TypeId} {x : Operand} {k1 k2 : IntKind} {a : Int} [h1 : Jn P t1 k1] [h2 : Jn P t2 k2] (hx : Af s x = some (I k1 a)) : Bq P cx (.convert t1 t2 x) ty s (I k2 (k2.wrap a)) := by
 refine UP hx fun w => ?_
 simp [convert, run_underlying h1.und w, run_underlying h2.und w, Conv.intToInt]
theorem Cv {w : World} {t e : TypeId} {sz by_ : Nat} (hT : G4 P t e sz by_) : (sizeOf e).run P w = .ok sz w := by
 obtain ⟨i, z, h1, h2, h3, h4, h5⟩ := hT.info
 simp [sizeOf, typeInfo, h1, h3]
end

end Go.Proofs.YtbgcjnfhadhjeaaGreat