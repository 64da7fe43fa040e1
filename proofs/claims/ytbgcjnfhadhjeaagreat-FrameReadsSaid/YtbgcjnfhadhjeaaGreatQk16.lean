/- Walks by data and names, part 16: Contracts for functions that turn the caller's own: told of a state of their own names, and called with any. -/
import Derived.Test.YtbgcjnfhadhjeaaGreatQk15
namespace Go.Proofs.YtbgcjnfhadhjeaaGreat
set_option maxRecDepth 20000
open Go.RowKit
def SP (P : Program) (f : FuncId) (B m : Nat) (vs : List V) (st : List E) (nb : Nat) (K : RC → List E → Nat → Prop) : Prop :=
 (∀ args w, (callFunc f args).run P w = .ok (.enter f args) w) ∧ ∀ (g : G) (w : World) (us : List Value), AC B g w st → CG B nb g w → vreps B g w vs us →
  Calls P f us.toArray w fun e w' => ∃ g' st' nb' r, Ei False m g w g' w' ∧ AC B g' w' st' ∧ CG B nb' g' w' ∧ Hb B g' w' r e ∧ K r st' nb' ∧ m ≤ nb'
def VM (P : Program) (f : FuncId) (m : Nat) (vs : List V) (st : List E) (nb : Nat) (K : RC → List E → Nat → Prop) : Prop := ∀ B, SP P f B m vs st nb K
theorem SP.mono {P : Program} {f : FuncId} {B m : Nat} {vs : List V} {st : List E} {nb : Nat} {K K' : RC → List E → Nat → Prop} (h : SP P f B m vs st nb K) (hq : ∀ r s n, K r s n → K' r s n) : SP P f B m vs st nb K' :=
 ⟨h.1, fun g w us h1 h2 h3 => (h.2 g w us h1 h2 h3).mono fun _ _ ⟨g', s', n', r, k1, k2, k3, k4, k5, k6⟩ => ⟨g', s', n', r, k1, k2, k3, k4, hq _ _ _ k5, k6⟩⟩
theorem VM.mono {P : Program} {f : FuncId} {m : Nat} {vs : List V} {st : List E} {nb : Nat} {K K' : RC → List E → Nat → Prop} (h : VM P f m vs st nb K) (hq : ∀ r s n, K r s n → K' r s n) : VM P f m vs st nb K' := fun B => (h B).mono hq
abbrev JT := List (Nat × Option Nat)
def G.loc (g : G) (m : Nat) (ρ : JT) : G :=
  ⟨fun b => g.own b ∧ ∀ i p, ρ[i]? = some p → (i < m → g.bx p.1 ≠ some b) ∧ g.rb p.1 ≠ some b,
   fun i => if i < m then (match ρ[i]? with | some p => g.bx p.1 | none => none) else none,
   fun i => match ρ[i]? with | some p => g.rb p.1 | none => none,
   fun i v => match ρ[i]? with | some (k, some v0) => if v = 0 then g.rw k v0 else none | _ => none, fun _ => False, fun _ h => h.elim⟩
theorem XV {g : G} {m : Nat} {ρ : JT} {b : Nat} : (g.loc m ρ).own b ↔ g.own b := by
 constructor
 ·rintro (h | ⟨i, h⟩ | ⟨i, h⟩)
  ·exact h.1
  ·simp only [G.loc] at h
   split at h
   ·split at h
    ·exact .inr (.inl ⟨_, h⟩)
    ·cases h
   ·cases h
  ·simp only [G.loc] at h
   split at h
   ·exact .inr (.inr ⟨_, h⟩)
   ·cases h
 ·intro h
  by_cases hx : ∀ i p, ρ[i]? = some p → (i < m → g.bx p.1 ≠ some b) ∧ g.rb p.1 ≠ some b
  ·exact .inl ⟨h, hx⟩
  ·obtain ⟨i, hx⟩ := Classical.not_forall.1 hx
   obtain ⟨p, hx⟩ := Classical.not_forall.1 hx
   have hp : ρ[i]? = some p := Classical.byContradiction fun hn => hx fun h => (hn h).elim
   by_cases h1 : g.rb p.1 = some b
   ·exact .inr (.inr ⟨i, by simp only [G.loc, hp]; exact h1⟩)
   ·have : i < m ∧ g.bx p.1 = some b := Classical.byContradiction fun hn => hx fun _ => ⟨fun hi e => hn ⟨hi, e⟩, h1⟩
    exact .inr (.inl ⟨i, by simp only [G.loc, hp, this.1, if_true]; exact this.2⟩)
theorem Hq {g : G} {m : Nat} {ρ : JT} : (g.loc m ρ).prot = g.prot := by
 funext b
 simp only [G.prot, XV]
def Wj (m : Nat) (ρ : JT) (st : List E) (vl vc : V) : Prop := ∀ B g w u, AC B g w st → vrep B g w vc u → vrep B (g.loc m ρ) w vl u
def LZ (m : Nat) (ρ : JT) (st : List E) (vl vc : List V) : Prop := ∀ B g w u, AC B g w st → vreps B g w vc u → vreps B (g.loc m ρ) w vl u
section
variable {m : Nat} {ρ : JT} {st : List E}
theorem QD : LZ m ρ st [] [] := fun _ _ _ _ _ h => by simpa only [vreps] using h
theorem Oh {x y : V} {xs ys : List V} (h : Wj m ρ st x y) (hs : LZ m ρ st xs ys) : LZ m ρ st (x :: xs) (y :: ys) := fun B g w u k h2 => by
 simp only [vreps] at h2 ⊢
 obtain ⟨z, zs, e, k1, k2⟩ := h2
 exact ⟨z, zs, e, h _ _ _ _ k k1, hs _ _ _ _ k k2⟩
theorem Yq {x y : D} {v : V} (h : Fz st v = some y) (hd : DL y x) : Wj m ρ st (.d x) v := fun B g w u k hu => by
 have := EO k h hu
 simp only [vrep, Hq]
 exact hd.le _ _ _ _ _ this
theorem QF {v : V} : Wj m ρ st (.d .any) v := fun B g w u _ _ => by simp only [vrep, drep]
theorem Tc {x : D} : Wj m ρ st (.d x) (.d x) := fun B g w u _ hu => by simp only [vrep, Hq] at hu ⊢; exact hu
theorem QC {i k off : Nat} (hi : Nat.blt i m = true) (h : (ρ[i]?).map (·.1) = some k) : Wj m ρ st (.ptr i off) (.ptr k off) := fun B g w u _ hu => by
 obtain ⟨p, hp, rfl⟩ := Option.map_eq_some_iff.1 h
 simp only [vrep] at hu ⊢
 obtain ⟨b, hb, e⟩ := hu
 exact ⟨b, by simp only [G.loc, hp]; rw [if_pos (Eg hi)]; exact hb, e⟩
theorem QB {i k v : Nat} (h : ρ[i]? = some (k, some v)) : Wj m ρ st (.row i 0) (.row k v) := fun B g w u _ hu => by
 simp only [vrep] at hu ⊢
 exact ⟨by simp only [G.loc, h]; exact hu.1, hu.2⟩
theorem QG {xs ys : List V} (h : LZ m ρ st xs ys) : Wj m ρ st (.agg xs) (.agg ys) := fun B g w u k hu => by
 simp only [vrep] at hu ⊢
 obtain ⟨cs, e, hu⟩ := hu
 exact ⟨cs, e, h _ _ _ _ k hu⟩
theorem QE {t : TypeId} {x y : V} (h : Wj m ρ st x y) : Wj m ρ st (.ifc t x) (.ifc t y) := fun B g w u k hu => by
 simp only [vrep] at hu ⊢
 obtain ⟨cs, e, hu⟩ := hu
 exact ⟨cs, e, h _ _ _ _ k hu⟩
theorem Tb {f : Fn} {xs ys xs' ys' : List V} (h : LZ m ρ st xs ys) (h' : LZ m ρ st xs' ys') : Wj m ρ st (.fn f xs xs') (.fn f ys ys') := fun B g w u k hu => by
 simp only [vrep] at hu ⊢
 obtain ⟨a, b, e, k1, k2⟩ := hu
 exact ⟨a, b, e, h _ _ _ _ k k1, h' _ _ _ _ k k2⟩
theorem LZ.get {xs ys : List V} (h : LZ m ρ st xs ys) {B : Nat} {g : G} {w : World} (k : AC B g w st) {us : List Value} (hu : vreps B g w ys us) : vreps B (g.loc m ρ) w xs us := h _ _ _ _ k hu
end
def Kc (m : Nat) (ρ : JT) (st : List E) : List E → Prop
 | [] => True
 | .c i off vs :: r => (∃ k vs', Nat.blt i m = true ∧ (ρ[i]?).map (·.1) = some k ∧ AM k off st vs.length = some vs' ∧ LZ m ρ st vs vs') ∧ Kc m ρ st r
 | .r o nw i ver e sz l :: r => (ver = 0 ∧ ∃ k v, ρ[i]? = some (k, some v) ∧ Az k st = some (o, nw, v, e, sz, l)) ∧ Kc m ρ st r
 | .y _ _ _ _ :: _ => False
section
variable {m B nb : Nat} {ρ : JT} {st : List E} {g : G} {w : World}
theorem Fo (hs : AC B g w st) : ∀ {AO : List E}, Kc m ρ st AO → ∀ {i off : Nat} {v : V}, Aq i off AO = some v → ∃ b rcs ty u, (g.loc m ρ).bx i = some b ∧ w.heap[b]? = some (.cells rcs ty (0, 0)) ∧ rcs[off]? = some u ∧ vrep B (g.loc m ρ) w v u
 | [], _, i, off, v, h => by simp [Aq] at h
 | .c i' o' vs :: r, he, i, off, v, h => by
  simp only [Aq] at h
  split at h
  ·rename_i hi
   have := Nat.eq_of_beq_eq_true hi
   subst this
   split at h
   ·rename_i ho
    have ho := Nat.le_of_ble_eq_true ho
    split at h
    ·rename_i v' hv
     cases h
     obtain ⟨⟨k, vs', hm, hk, hc, hle⟩, _⟩ := he
     obtain ⟨p, hp, rfl⟩ := Option.map_eq_some_iff.1 hk
     have hlen := (List.getElem?_eq_some_iff.1 hv).1
     have hlen2 := EM hc
     obtain ⟨y, hy⟩ : ∃ y, vs'[off - o']? = some y := ⟨_, List.getElem?_eq_getElem (by omega)⟩
     have h1 := FK hc hy
     rw [show o' + (off - o') = off by omega] at h1
     obtain ⟨b, rcs, ty, u, m1, m2, m3, m4⟩ := hs.cell h1
     have hb : ∃ us, vreps B g w vs' us ∧ us[off - o']? = some u := by
      obtain ⟨us, q1, q2⟩ := FJ hs m1 hc
      obtain ⟨z, hz, hz2⟩ := CH q1 hy
      refine ⟨us, q1, ?_⟩
      obtain ⟨b', o2, e, _, e3⟩ := q2 _ _ hz
      cases e
      have : w.cell? ⟨b, o' + (off - o'), none⟩ = some u := by
       rw [show o' + (off - o') = off by omega, cell_of_row w b off rcs ty (0, 0) m2]; exact m3
      rw [this] at e3; cases e3
      exact hz
     obtain ⟨us, q1, q2⟩ := hb
     obtain ⟨z, hz, hz2⟩ := CH (hle.get hs q1) hv
     rw [q2] at hz; cases hz
     exact ⟨b, rcs, ty, u, by simp only [G.loc, hp]; rw [if_pos (Eg hm)]; exact m1, m2, m3, hz2⟩
    ·exact Fo hs he.2 h
   ·exact Fo hs he.2 h
  ·exact Fo hs he.2 h
 | .r .. :: r, he, i, off, v, h => by
  simp only [Aq] at h
  exact Fo hs he.2 h
theorem IB : ∀ {AO : List E}, Kc m ρ st AO → ∀ {i : Nat} {r}, Au i AO = some r → False
 | [], _, i, r, h => by simp [Au] at h
 | .c .. :: _, he, i, r, h => by simp only [Au] at h; exact IB he.2 h
 | .r .. :: _, he, i, r, h => by simp only [Au] at h; exact IB he.2 h
theorem JN : ∀ {AO : List E}, Kc m ρ st AO → ∀ {i : Nat} {o nw ver e sz l}, Az i AO = some (o, nw, ver, e, sz, l) → ver = 0 ∧ ∃ k v, ρ[i]? = some (k, some v) ∧ Az k st = some (o, nw, v, e, sz, l)
 | [], _, i, o, nw, ver, e, sz, l, h => by simp [Az] at h
 | .c .. :: r, he, i, o, nw, ver, e, sz, l, h => by
  simp only [Az] at h
  exact JN he.2 h
 | .r .. :: r, he, i, o, nw, ver, e, sz, l, h => by
  simp only [Az] at h
  split at h
  ·rename_i hb
   have := Nat.eq_of_beq_eq_true hb
   subst this
   cases h
   exact he.1
  ·exact JN he.2 h
def IS (ρ : JT) : Bool := decide (ρ.map (·.1)).Nodup
theorem Nn (h : IS ρ = true) {i j : Nat} {p q : Nat × Option Nat} (hi : ρ[i]? = some p) (hj : ρ[j]? = some q) (e : p.1 = q.1) : i = j := by
 have hn : (ρ.map (·.1)).Nodup := by simpa [IS] using h
 have h1 : (ρ.map (·.1))[i]? = some p.1 := by simp [hi]
 have h2 : (ρ.map (·.1))[j]? = some q.1 := by simp [hj]
 exact (List.getElem?_inj (List.getElem?_eq_some_iff.1 h1).1 hn).1 (by rw [h1, h2, e])
theorem XW (h : CG B nb g w) (hρ : IS ρ = true) (_ : m ≤ ρ.length) : CG B ρ.length (g.loc m ρ) w := by
 have bxd : ∀ {i b}, (g.loc m ρ).bx i = some b → ∃ p, ρ[i]? = some p ∧ i < m ∧ g.bx p.1 = some b := fun {i b} h => by
  simp only [G.loc] at h
  split at h
  ·rename_i hi
   split at h
   ·rename_i p hp; exact ⟨p, hp, hi, h⟩
   ·cases h
  ·cases h
 have rbd : ∀ {i b}, (g.loc m ρ).rb i = some b → ∃ p, ρ[i]? = some p ∧ g.rb p.1 = some b := fun {i b} h => by
  simp only [G.loc] at h
  split at h
  ·rename_i p hp; exact ⟨p, hp, h⟩
  ·cases h
 refine ⟨fun {i b} hb => ?_, fun {i b} hb => ?_, fun {i j v} hb => ?_, fun {i j b} h1 h2 => ?_, fun {i j b} h1 h2 => ?_, fun {i j b} h1 h2 => ?_, fun {b} hb => ?_, fun {i b} hb he => ?_, fun {i b} hb he => ?_, fun h => h.elim, h.base⟩
 ·obtain ⟨p, hp, hi, k⟩ := bxd hb; exact ⟨(h.bxlt k).1, (List.getElem?_eq_some_iff.1 hp).1⟩
 ·obtain ⟨p, hp, k⟩ := rbd hb; exact ⟨(h.rblt k).1, (List.getElem?_eq_some_iff.1 hp).1⟩
 ·simp only [G.loc] at hb
  split at hb
  ·rename_i hp; exact (List.getElem?_eq_some_iff.1 hp).1
  ·cases hb
 ·obtain ⟨p, hp, _, k⟩ := bxd h1; obtain ⟨q, hq, _, k'⟩ := bxd h2; exact Nn hρ hp hq (h.bxinj k k')
 ·obtain ⟨p, hp, k⟩ := rbd h1; obtain ⟨q, hq, k'⟩ := rbd h2; exact Nn hρ hp hq (h.rbinj k k')
 ·obtain ⟨p, hp, _, k⟩ := bxd h1; obtain ⟨q, hq, k'⟩ := rbd h2; exact h.apart k k'
 ·rcases hb.1 with k | ⟨_, k⟩ | ⟨_, k⟩
  ·exact h.exlt k
  ·exact (h.bxlt k).1
  ·exact (h.rblt k).1
 ·obtain ⟨p, hp, hi, k⟩ := bxd hb; exact (he.2 i p hp).1 hi k
 ·obtain ⟨p, hp, k⟩ := rbd hb; exact (he.2 i p hp).2 k
theorem XU (hs : AC B g w st) {AO : List E} (he : Kc m ρ st AO) : AC B (g.loc m ρ) w AO := by
 refine ⟨fun {i off v} hc => Fo hs he hc, fun {i o nw ver e sz l} hr => ?_, fun hl => (IB he hl).elim⟩
 obtain ⟨rfl, k, v, hp, hr⟩ := JN he hr
 obtain ⟨u, xs, r1, r2, r3, r4, r5⟩ := hs.row hr
 refine ⟨u, xs, by simp only [G.loc, hp]; exact r1, by rw [Hq]; exact r2, ⟨r3.1, r3.2.1, fun j x hx => ?_⟩, r4, ?_⟩
 ·simp only [G.loc, hp] at hx
  split at hx
  ·omega
  ·cases hx
 ·rcases r5 with ⟨e1, e2, e3⟩ | ⟨e1, e2, e3⟩
  ·exact .inl ⟨e1, e2, by simp only [G.loc, hp]; exact e3⟩
  ·exact .inr ⟨e1, by simp only [G.loc, hp]; exact e2, by rw [Hq]; exact e3⟩
end
def GF (m nb : Nat) (ρ : JT) (i : Nat) : Option Nat := match Nat.blt i m with
 | true => (match ρ[i]? with | some p => some p.1 | none => none)
 | false => some (nb + (i - m))
def Mj (m nb : Nat) (ρ : JT) (i ver : Nat) : Option (Nat × Nat) := match Nat.blt i m with
 | true => (match ρ[i]? with | some (k, some v) => some (k, v + ver) | _ => none)
 | false => some (nb + (i - m), ver)
mutual
def Gb (m nb : Nat) (ρ : JT) : V → Option V
 | .d x => some (.d x)
 | .po _ _ => none
 | .ep l => some (.ep l)
 | .agg l => match GV m nb ρ l with
  | some r => some (.agg r)
  | none => none
 | .tup l => match GV m nb ρ l with
  | some r => some (.tup r)
  | none => none
 | .ptr i off => match GF m nb ρ i with
  | some k => some (.ptr k off)
  | none => none
 | .sv i off n cap sz => match GF m nb ρ i with
  | some k => some (.sv k off n cap sz)
  | none => none
 | .yl i => match GF m nb ρ i with
  | some k => some (.yl k)
  | none => none
 | .rv i ver n => match Mj m nb ρ i ver with
  | some p => some (.rv p.1 p.2 n)
  | none => none
 | .row i ver => match Mj m nb ρ i ver with
  | some p => some (.row p.1 p.2)
  | none => none
 | .rp i ver sz a b => match Mj m nb ρ i ver with
  | some p => some (.rp p.1 p.2 sz a b)
  | none => none
 | .fn f fi ca => match GV m nb ρ fi with
  | some r => (match GV m nb ρ ca with
   | some q => some (.fn f r q)
   | none => none)
  | none => none
 | .ifc t x => match Gb m nb ρ x with
  | some r => some (.ifc t r)
  | none => none
def GV (m nb : Nat) (ρ : JT) : List V → Option (List V)
 | [] => some []
 | x :: xs => match Gb m nb ρ x with
  | some y => (match GV m nb ρ xs with
   | some ys => some (y :: ys)
   | none => none)
  | none => none
end
def CB (ks : List Nat) : List E → Option (List E)
 | [] => some []
 | .y k lp T tm :: r => (match CB ks r with
  | some q => (match I2 k ks with
   | true => some q
   | false => some (.y k lp T tm :: q))
  | none => none)
 | .c k off vs :: r => (match CB ks r with
  | some q => (match I2 k ks with
   | true => some q
   | false => some (.c k off vs :: q))
  | none => none)
 | .r o nw k ver e sz l :: r => (match CB ks r with
  | some q => (match I2 k ks with
   | true => some q
   | false => some (.r o nw k ver e sz l :: q))
  | none => none)
def Du (m nb : Nat) (ρ : JT) (tail : List E) : List E → Option (List E)
 | [] => some tail
 | .y _ _ _ _ :: r => Du m nb ρ tail r
 | .c i off vs :: r => (match Du m nb ρ tail r with
  | some q => (match GF m nb ρ i with
   | some k => (match GV m nb ρ vs with
    | some us => some (.c k off us :: q)
    | none => none)
   | none => none)
  | none => none)
 | .r o nw i ver e sz l :: r => (match Du m nb ρ tail r with
  | some q => (match Mj m nb ρ i ver with
   | some p => some (.r o nw p.1 p.2 e sz l :: q)
   | none => none)
  | none => none)
section
variable {m B nb nb1 : Nat} {ρ : JT} {st : List E} {g g1 : G} {w w' : World}
theorem CT {ks : List Nat} : ∀ {st r : List E}, CB ks st = some r → ∀ {k off : Nat} {v : V}, Aq k off r = some v → k ∉ ks ∧ Aq k off st = some v
 | [], r, h, k, off, v, hc => by simp only [CB, Option.some.injEq] at h; subst h; simp [Aq] at hc
 | .c k' o' vs :: st, r, h, k, off, v, hc => by
  simp only [CB] at h
  split at h
  ·rename_i q hq
   split at h
   ·rename_i hm
    cases h
    obtain ⟨h1, h2⟩ := CT hq hc
    refine ⟨h1, ?_⟩
    simp only [Aq]
    split
    ·rename_i hb
     have := Nat.eq_of_beq_eq_true hb
     subst this
     exact (h1 (EI.1 hm)).elim
    ·exact h2
   ·rename_i hm
    cases h
    simp only [Aq] at hc ⊢
    split at hc
    ·rename_i hb
     have := Nat.eq_of_beq_eq_true hb
     subst this
     have hk : k ∉ ks := fun hk => by rw [EI.2 hk] at hm; cases hm
     refine ⟨hk, ?_⟩
     split at hc
     ·split at hc
      ·exact hc
      ·exact (CT hq hc).2
     ·exact (CT hq hc).2
    ·exact CT hq hc
  ·cases h
 | .r o nw k' ver e sz l :: st, r, h, k, off, v, hc => by
  simp only [CB] at h
  simp only [Aq]
  split at h
  ·rename_i q hq
   split at h
   ·cases h; exact CT hq hc
   ·cases h; simp only [Aq] at hc; exact CT hq hc
  ·cases h
 | .y k' lp T tm :: st, r, h, k, off, v, hc => by
  simp only [CB] at h
  simp only [Aq]
  split at h
  ·rename_i q hq
   split at h
   ·cases h; exact CT hq hc
   ·cases h; simp only [Aq] at hc; exact CT hq hc
  ·cases h
theorem DQ {ks : List Nat} : ∀ {st r : List E}, CB ks st = some r → ∀ {k : Nat} {lp}, Au k r = some lp → k ∉ ks ∧ Au k st = some lp
 | [], r, h, k, lp, hc => by simp only [CB, Option.some.injEq] at h; subst h; simp [Au] at hc
 | .r .. :: st, r, h, k, lp, hc => by
  simp only [CB] at h
  simp only [Au]
  split at h
  ·rename_i q hq
   split at h
   ·cases h; exact DQ hq hc
   ·cases h; simp only [Au] at hc; exact DQ hq hc
  ·cases h
 | .c .. :: st, r, h, k, lp, hc => by
  simp only [CB] at h
  simp only [Au]
  split at h
  ·rename_i q hq
   split at h
   ·cases h; exact DQ hq hc
   ·cases h; simp only [Au] at hc; exact DQ hq hc
  ·cases h
 | .y k' lp' T' tm' :: st, r, h, k, lp, hc => by
  simp only [CB] at h
  split at h
  ·rename_i q hq
   split at h
   ·rename_i hm
    cases h
    obtain ⟨h1, h2⟩ := DQ hq hc
    refine ⟨h1, ?_⟩
    simp only [Au]
    split
    ·rename_i hb
     have := Nat.eq_of_beq_eq_true hb
     subst this
     exact (h1 (EI.1 hm)).elim
    ·exact h2
   ·rename_i hm
    cases h
    simp only [Au] at hc ⊢
    split at hc
    ·rename_i hb
     have := Nat.eq_of_beq_eq_true hb
     subst this
     have hk : k ∉ ks := fun hk => by rw [EI.2 hk] at hm; cases hm
     exact ⟨hk, hc⟩
    ·exact DQ hq hc
  ·cases h
theorem Es {ks : List Nat} : ∀ {st r : List E}, CB ks st = some r → ∀ {k : Nat} {x}, Az k r = some x → k ∉ ks ∧ Az k st = some x
 | [], r, h, k, x, hc => by simp only [CB, Option.some.injEq] at h; subst h; simp [Az] at hc
 | .r o nw k' ver e sz l :: st, r, h, k, x, hc => by
  simp only [CB] at h
  split at h
  ·rename_i q hq
   split at h
   ·rename_i hm
    cases h
    obtain ⟨h1, h2⟩ := Es hq hc
    refine ⟨h1, ?_⟩
    simp only [Az]
    split
    ·rename_i hb
     have := Nat.eq_of_beq_eq_true hb
     subst this
     exact (h1 (EI.1 hm)).elim
    ·exact h2
   ·rename_i hm
    cases h
    simp only [Az] at hc ⊢
    split at hc
    ·rename_i hb
     have := Nat.eq_of_beq_eq_true hb
     subst this
     have hk : k ∉ ks := fun hk => by rw [EI.2 hk] at hm; cases hm
     exact ⟨hk, hc⟩
    ·exact Es hq hc
  ·cases h
 | .c k' o' vs :: st, r, h, k, x, hc => by
  simp only [CB] at h
  simp only [Az]
  split at h
  ·rename_i q hq
   split at h
   ·cases h; exact Es hq hc
   ·cases h; simp only [Az] at hc; exact Es hq hc
  ·cases h
 | .y k' lp T tm :: st, r, h, k, x, hc => by
  simp only [CB] at h
  simp only [Az]
  split at h
  ·rename_i q hq
   split at h
   ·cases h; exact Es hq hc
   ·cases h; simp only [Az] at hc; exact Es hq hc
  ·cases h
theorem JD : ∀ {l r : List V}, GV m nb ρ l = some r → r.length = l.length ∧ ∀ {i : Nat} {y : V}, r[i]? = some y → ∃ x, l[i]? = some x ∧ Gb m nb ρ x = some y
 | [], r, h => by simp only [GV, Option.some.injEq] at h; subst h; simp
 | x :: xs, r, h => by
  simp only [GV] at h
  split at h
  ·rename_i y hy
   split at h
   ·rename_i ys hys
    cases h
    obtain ⟨h1, h2⟩ := JD hys
    refine ⟨by simp [h1], fun {i z} hz => ?_⟩
    cases i with
    | zero => simp only [List.getElem?_cons_zero, Option.some.injEq] at hz ⊢; subst hz; exact ⟨x, rfl, hy⟩
    | succ i => simp only [List.getElem?_cons_succ] at hz ⊢; exact h2 hz
   ·cases h
  ·cases h
theorem Qg {i ver : Nat} {p : Nat × Nat} (h : Mj m nb ρ i ver = some p) : GF m nb ρ i = some p.1 := by
 unfold Mj at h
 unfold GF
 split at h
 ·split at h
  ·rename_i hp; cases h; simp [hp]
  ·cases h
 ·cases h; rfl
theorem GH (hρ : IS ρ = true) (hlt : ∀ (i : Nat) (p : Nat × Option Nat), ρ[i]? = some p → p.1 < nb) {tail : List E} : ∀ {st1 r : List E}, Du m nb ρ tail st1 = some r → ∀ {k off : Nat} {v : V}, Aq k off r = some v →
  (∃ i v1, GF m nb ρ i = some k ∧ Aq i off st1 = some v1 ∧ Gb m nb ρ v1 = some v) ∨ Aq k off tail = some v
 | [], r, h, k, off, v, hc => by simp only [Du, Option.some.injEq] at h; subst h; exact .inr hc
 | .c i o' vs :: st1, r, h, k, off, v, hc => by
  simp only [Du] at h
  split at h
  ·rename_i q hq
   split at h
   ·rename_i k' hk'
    split at h
    ·rename_i us hus
     cases h
     have hrec : Aq k off q = some v → (∀ v1, Aq i off (.c i o' vs :: st1) = some v1 → k = k' → Aq i off st1 = some v1) → (∃ i' v1, GF m nb ρ i' = some k ∧ Aq i' off (.c i o' vs :: st1) = some v1 ∧ Gb m nb ρ v1 = some v) ∨ Aq k off tail = some v := fun hc hsk => by
      rcases GH hρ hlt hq hc with ⟨i', v1, e1, e2, e3⟩ | h
      ·refine .inl ⟨i', v1, e1, ?_, e3⟩
       simp only [Aq]
       split
       ·rename_i hb
        have := Nat.eq_of_beq_eq_true hb
        subst this
        rw [hk'] at e1; cases e1
        split
        ·split
         ·rename_i x hx
          have hz := hsk x (by simp only [Aq, Nat.beq_refl]; rename_i ho hx; simp [ho, hx]) rfl
          rw [hz] at e2; exact e2
         ·exact e2
        ·exact e2
       ·exact e2
      ·exact .inr h
     simp only [Aq] at hc
     split at hc
     ·rename_i hb
      have := Nat.eq_of_beq_eq_true hb
      subst this
      split at hc
      ·rename_i ho
       split at hc
       ·rename_i y hy
        cases hc
        obtain ⟨x, hx, hm⟩ := (JD hus).2 hy
        exact .inl ⟨i, x, hk', by simp only [Aq, Nat.beq_refl, ho, hx], hm⟩
       ·rename_i hy
        refine hrec hc fun v1 h1 _ => ?_
        have : vs[off - o']? = none := by
         rw [List.getElem?_eq_none_iff] at hy ⊢
         rw [(JD hus).1] at hy; exact hy
        simp only [Aq, Nat.beq_refl, ho, this] at h1; exact h1
      ·rename_i ho
       exact hrec hc fun v1 h1 _ => by simp only [Aq, Nat.beq_refl, ho] at h1; exact h1
     ·rename_i hb
      exact hrec hc fun v1 _ e => by subst e; rw [Nat.beq_refl] at hb; cases hb
    ·cases h
   ·cases h
  ·cases h
 | .r .. :: st1, r, h, k, off, v, hc => by
  simp only [Du] at h
  split at h
  ·rename_i q hq
   split at h
   ·cases h
    simp only [Aq] at hc ⊢
    exact GH hρ hlt hq hc
   ·cases h
  ·cases h
 | .y .. :: st1, r, h, k, off, v, hc => by
  simp only [Du] at h
  simp only [Aq]
  exact GH hρ hlt h hc
theorem GG {tail : List E} : ∀ {st1 r : List E}, Du m nb ρ tail st1 = some r → ∀ {k : Nat} {lp}, Au k r = some lp → Au k tail = some lp
 | [], r, h, k, lp, hc => by simp only [Du, Option.some.injEq] at h; subst h; exact hc
 | .r .. :: st1, r, h, k, lp, hc => by
  simp only [Du] at h
  split at h
  ·rename_i q hq
   split at h
   ·cases h; simp only [Au] at hc; exact GG hq hc
   ·cases h
  ·cases h
 | .c .. :: st1, r, h, k, lp, hc => by
  simp only [Du] at h
  split at h
  ·rename_i q hq
   split at h
   ·split at h
    ·cases h; simp only [Au] at hc; exact GG hq hc
    ·cases h
   ·cases h
  ·cases h
 | .y .. :: st1, r, h, k, lp, hc => by
  simp only [Du] at h
  exact GG h hc
theorem HW (hρ : IS ρ = true) (hlt : ∀ (i : Nat) (p : Nat × Option Nat), ρ[i]? = some p → p.1 < nb) {tail : List E} : ∀ {st1 r : List E}, Du m nb ρ tail st1 = some r → ∀ {k : Nat} {o nw ver e sz l}, Az k r = some (o, nw, ver, e, sz, l) →
  (∃ i v1, Mj m nb ρ i v1 = some (k, ver) ∧ Az i st1 = some (o, nw, v1, e, sz, l)) ∨ Az k tail = some (o, nw, ver, e, sz, l)
 | [], r, h, k, o, nw, ver, e, sz, l, hc => by simp only [Du, Option.some.injEq] at h; subst h; exact .inr hc
 | .r o' nw' i ver' e' sz' l' :: st1, r, h, k, o, nw, ver, e, sz, l, hc => by
  simp only [Du] at h
  split at h
  ·rename_i q hq
   split at h
   ·rename_i p hp
    cases h
    simp only [Az] at hc
    split at hc
    ·rename_i hb
     have := Nat.eq_of_beq_eq_true hb
     subst this
     cases hc
     exact .inl ⟨i, ver', hp, by simp only [Az, Nat.beq_refl]⟩
    ·rename_i hb
     rcases HW hρ hlt hq hc with ⟨i', v1, e1, e2⟩ | h
     ·refine .inl ⟨i', v1, e1, ?_⟩
      simp only [Az]
      split
      ·rename_i hb2
       have := Nat.eq_of_beq_eq_true hb2
       subst this
       have h1 := Qg hp
       have h2 := Qg e1
       rw [h1] at h2
       simp only [Option.some.injEq] at h2
       rw [← h2, Nat.beq_refl] at hb; cases hb
      ·exact e2
     ·exact .inr h
   ·cases h
  ·cases h
 | .y .. :: st1, r, h, k, o, nw, ver, e, sz, l, hc => by
  simp only [Du] at h
  simp only [Az]
  exact HW hρ hlt h hc
 | .c .. :: st1, r, h, k, o, nw, ver, e, sz, l, hc => by
  simp only [Du] at h
  split at h
  ·rename_i q hq
   split at h
   ·split at h
    ·cases h
     simp only [Az] at hc ⊢
     exact HW hρ hlt hq hc
    ·cases h
   ·cases h
  ·cases h
end

end Go.Proofs.YtbgcjnfhadhjeaaGreat