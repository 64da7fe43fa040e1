/- Walks by data and names, part 18: Contracts for functions that turn the caller's own: told of a state of their own names, and called with any. -/
import Derived.Test.YtbgcjnfhadhjeaaGreatPk17
namespace Go.Proofs.YtbgcjnfhadhjeaaGreat
set_option maxRecDepth 20000
open Go.RowKit
def SU (P : Program) (f : FuncId) (B m : Nat) (vs : List V) (st : List E) (nb : Nat) (K : RC → List E → Nat → Prop) : Prop :=
 (∀ args w, (callFunc f args).run P w = .ok (.enter f args) w) ∧ ∀ (g : G) (w : World) (us : List Value), AG B g w st → Cs B nb g w → vreps B g w vs us →
  Calls P f us.toArray w fun e w' => ∃ g' st' nb' r, D8 False m g w g' w' ∧ AG B g' w' st' ∧ Cs B nb' g' w' ∧ GV B g' w' r e ∧ K r st' nb' ∧ m ≤ nb'
def VM (P : Program) (f : FuncId) (m : Nat) (vs : List V) (st : List E) (nb : Nat) (K : RC → List E → Nat → Prop) : Prop := ∀ B, SU P f B m vs st nb K
theorem SU.mono {P : Program} {f : FuncId} {B m : Nat} {vs : List V} {st : List E} {nb : Nat} {K K' : RC → List E → Nat → Prop} (h : SU P f B m vs st nb K) (hq : ∀ r s n, K r s n → K' r s n) : SU P f B m vs st nb K' :=
 ⟨h.1, fun g w us h1 h2 h3 => (h.2 g w us h1 h2 h3).mono fun _ _ ⟨g', s', n', r, k1, k2, k3, k4, k5, k6⟩ => ⟨g', s', n', r, k1, k2, k3, k4, hq _ _ _ k5, k6⟩⟩
theorem VM.mono {P : Program} {f : FuncId} {m : Nat} {vs : List V} {st : List E} {nb : Nat} {K K' : RC → List E → Nat → Prop} (h : VM P f m vs st nb K) (hq : ∀ r s n, K r s n → K' r s n) : VM P f m vs st nb K' := fun B => (h B).mono hq
abbrev JQ := List (Nat × Option Nat)
def G.loc (g : G) (m : Nat) (ρ : JQ) : G :=
  ⟨fun b => g.own b ∧ ∀ i p, ρ[i]? = some p → (i < m → g.bx p.1 ≠ some b) ∧ g.rb p.1 ≠ some b,
   fun i => if i < m then (match ρ[i]? with | some p => g.bx p.1 | none => none) else none,
   fun i => match ρ[i]? with | some p => g.rb p.1 | none => none,
   fun i v => match ρ[i]? with | some (k, some v0) => if v = 0 then g.rw k v0 else none | _ => none, fun _ => False, fun _ h => h.elim⟩
theorem XT {g : G} {m : Nat} {ρ : JQ} {b : Nat} : (g.loc m ρ).own b ↔ g.own b := by
 constructor
 ·rintro (h | ⟨i, h⟩ | ⟨i, h⟩)
  ·exact h.1
  ·simp only [G.loc] at h
   split at h
   ·split at h
    ·exact .inr (.inl ⟨_, h⟩)
    ·cases h
   ·cases h
  ·simp only [G.loc] at h
   split at h
   ·exact .inr (.inr ⟨_, h⟩)
   ·cases h
 ·intro h
  by_cases hx : ∀ i p, ρ[i]? = some p → (i < m → g.bx p.1 ≠ some b) ∧ g.rb p.1 ≠ some b
  ·exact .inl ⟨h, hx⟩
  ·obtain ⟨i, hx⟩ := Classical.not_forall.1 hx
   obtain ⟨p, hx⟩ := Classical.not_forall.1 hx
   have hp : ρ[i]? = some p := Classical.byContradiction fun hn => hx fun h => (hn h).elim
   by_cases h1 : g.rb p.1 = some b
   ·exact .inr (.inr ⟨i, by simp only [G.loc, hp]; exact h1⟩)
   ·have : i < m ∧ g.bx p.1 = some b := Classical.byContradiction fun hn => hx fun _ => ⟨fun hi e => hn ⟨hi, e⟩, h1⟩
    exact .inr (.inl ⟨i, by simp only [G.loc, hp, this.1, if_true]; exact this.2⟩)
theorem Hd {g : G} {m : Nat} {ρ : JQ} : (g.loc m ρ).prot = g.prot := by
 funext b
 simp only [G.prot, XT]
def Ws (m : Nat) (ρ : JQ) (st : List E) (vl vc : V) : Prop := ∀ B g w u, AG B g w st → vrep B g w vc u → vrep B (g.loc m ρ) w vl u
def Ma (m : Nat) (ρ : JQ) (st : List E) (vl vc : List V) : Prop := ∀ B g w u, AG B g w st → vreps B g w vc u → vreps B (g.loc m ρ) w vl u
section
variable {m : Nat} {ρ : JQ} {st : List E}
theorem QV : Ma m ρ st [] [] := fun _ _ _ _ _ h => by simpa only [vreps] using h
theorem Oq {x y : V} {xs ys : List V} (h : Ws m ρ st x y) (hs : Ma m ρ st xs ys) : Ma m ρ st (x :: xs) (y :: ys) := fun B g w u k h2 => by
 simp only [vreps] at h2 ⊢
 obtain ⟨z, zs, e, k1, k2⟩ := h2
 exact ⟨z, zs, e, h _ _ _ _ k k1, hs _ _ _ _ k k2⟩
theorem Yl {x y : D} {v : V} (h : Fw st v = some y) (hd : DL y x) : Ws m ρ st (.d x) v := fun B g w u k hu => by
 have := ED k h hu
 simp only [vrep, Hd]
 exact hd.le _ _ _ _ _ this
theorem QX {v : V} : Ws m ρ st (.d .any) v := fun B g w u _ _ => by simp only [vrep, drep]
theorem Ti {x : D} : Ws m ρ st (.d x) (.d x) := fun B g w u _ hu => by simp only [vrep, Hd] at hu ⊢; exact hu
theorem QU {i k off : Nat} (hi : Nat.blt i m = true) (h : (ρ[i]?).map (·.1) = some k) : Ws m ρ st (.ptr i off) (.ptr k off) := fun B g w u _ hu => by
 obtain ⟨p, hp, rfl⟩ := Option.map_eq_some_iff.1 h
 simp only [vrep] at hu ⊢
 obtain ⟨b, hb, e⟩ := hu
 exact ⟨b, by simp only [G.loc, hp]; rw [if_pos (D6 hi)]; exact hb, e⟩
theorem QT {i k v : Nat} (h : ρ[i]? = some (k, some v)) : Ws m ρ st (.row i 0) (.row k v) := fun B g w u _ hu => by
 simp only [vrep] at hu ⊢
 exact ⟨by simp only [G.loc, h]; exact hu.1, hu.2⟩
theorem QY {xs ys : List V} (h : Ma m ρ st xs ys) : Ws m ρ st (.agg xs) (.agg ys) := fun B g w u k hu => by
 simp only [vrep] at hu ⊢
 obtain ⟨cs, e, hu⟩ := hu
 exact ⟨cs, e, h _ _ _ _ k hu⟩
theorem QW {t : TypeId} {x y : V} (h : Ws m ρ st x y) : Ws m ρ st (.ifc t x) (.ifc t y) := fun B g w u k hu => by
 simp only [vrep] at hu ⊢
 obtain ⟨cs, e, hu⟩ := hu
 exact ⟨cs, e, h _ _ _ _ k hu⟩
theorem Th {f : Fn} {xs ys xs' ys' : List V} (h : Ma m ρ st xs ys) (h' : Ma m ρ st xs' ys') : Ws m ρ st (.fn f xs xs') (.fn f ys ys') := fun B g w u k hu => by
 simp only [vrep] at hu ⊢
 obtain ⟨a, b, e, k1, k2⟩ := hu
 exact ⟨a, b, e, h _ _ _ _ k k1, h' _ _ _ _ k k2⟩
theorem Ma.get {xs ys : List V} (h : Ma m ρ st xs ys) {B : Nat} {g : G} {w : World} (k : AG B g w st) {us : List Value} (hu : vreps B g w ys us) : vreps B (g.loc m ρ) w xs us := h _ _ _ _ k hu
end
def J7 (m : Nat) (ρ : JQ) (st : List E) : List E → Prop
 | [] => True
 | .c i off vs :: r => (∃ k vs', Nat.blt i m = true ∧ (ρ[i]?).map (·.1) = some k ∧ AM k off st vs.length = some vs' ∧ Ma m ρ st vs vs') ∧ J7 m ρ st r
 | .r o nw i ver e sz l :: r => (ver = 0 ∧ ∃ k v, ρ[i]? = some (k, some v) ∧ AB k st = some (o, nw, v, e, sz, l)) ∧ J7 m ρ st r
 | .y _ _ _ _ :: _ => False
section
variable {m B nb : Nat} {ρ : JQ} {st : List E} {g : G} {w : World}
theorem Fh (hs : AG B g w st) : ∀ {AO : List E}, J7 m ρ st AO → ∀ {i off : Nat} {v : V}, Ap i off AO = some v → ∃ b rcs ty u, (g.loc m ρ).bx i = some b ∧ w.heap[b]? = some (.cells rcs ty (0, 0)) ∧ rcs[off]? = some u ∧ vrep B (g.loc m ρ) w v u
 | [], _, i, off, v, h => by simp [Ap] at h
 | .c i' o' vs :: r, he, i, off, v, h => by
  simp only [Ap] at h
  split at h
  ·rename_i hi
   have := Nat.eq_of_beq_eq_true hi
   subst this
   split at h
   ·rename_i ho
    have ho := Nat.le_of_ble_eq_true ho
    split at h
    ·rename_i v' hv
     cases h
     obtain ⟨⟨k, vs', hm, hk, hc, hle⟩, _⟩ := he
     obtain ⟨p, hp, rfl⟩ := Option.map_eq_some_iff.1 hk
     have hlen := (List.getElem?_eq_some_iff.1 hv).1
     have hlen2 := EC hc
     obtain ⟨y, hy⟩ : ∃ y, vs'[off - o']? = some y := ⟨_, List.getElem?_eq_getElem (by omega)⟩
     have h1 := FF hc hy
     rw [show o' + (off - o') = off by omega] at h1
     obtain ⟨b, rcs, ty, u, m1, m2, m3, m4⟩ := hs.cell h1
     have hb : ∃ us, vreps B g w vs' us ∧ us[off - o']? = some u := by
      obtain ⟨us, q1, q2⟩ := FE hs m1 hc
      obtain ⟨z, hz, hz2⟩ := Ck q1 hy
      refine ⟨us, q1, ?_⟩
      obtain ⟨b', o2, e, _, e3⟩ := q2 _ _ hz
      cases e
      have : w.cell? ⟨b, o' + (off - o'), none⟩ = some u := by
       rw [show o' + (off - o') = off by omega, cell_of_row w b off rcs ty (0, 0) m2]; exact m3
      rw [this] at e3; cases e3
      exact hz
     obtain ⟨us, q1, q2⟩ := hb
     obtain ⟨z, hz, hz2⟩ := Ck (hle.get hs q1) hv
     rw [q2] at hz; cases hz
     exact ⟨b, rcs, ty, u, by simp only [G.loc, hp]; rw [if_pos (D6 hm)]; exact m1, m2, m3, hz2⟩
    ·exact Fh hs he.2 h
   ·exact Fh hs he.2 h
  ·exact Fh hs he.2 h
 | .r .. :: r, he, i, off, v, h => by
  simp only [Ap] at h
  exact Fh hs he.2 h
theorem Iq : ∀ {AO : List E}, J7 m ρ st AO → ∀ {i : Nat} {r}, Au i AO = some r → False
 | [], _, i, r, h => by simp [Au] at h
 | .c .. :: _, he, i, r, h => by simp only [Au] at h; exact Iq he.2 h
 | .r .. :: _, he, i, r, h => by simp only [Au] at h; exact Iq he.2 h
theorem JI : ∀ {AO : List E}, J7 m ρ st AO → ∀ {i : Nat} {o nw ver e sz l}, AB i AO = some (o, nw, ver, e, sz, l) → ver = 0 ∧ ∃ k v, ρ[i]? = some (k, some v) ∧ AB k st = some (o, nw, v, e, sz, l)
 | [], _, i, o, nw, ver, e, sz, l, h => by simp [AB] at h
 | .c .. :: r, he, i, o, nw, ver, e, sz, l, h => by
  simp only [AB] at h
  exact JI he.2 h
 | .r .. :: r, he, i, o, nw, ver, e, sz, l, h => by
  simp only [AB] at h
  split at h
  ·rename_i hb
   have := Nat.eq_of_beq_eq_true hb
   subst this
   cases h
   exact he.1
  ·exact JI he.2 h
def IH (ρ : JQ) : Bool := decide (ρ.map (·.1)).Nodup
theorem Nt (h : IH ρ = true) {i j : Nat} {p q : Nat × Option Nat} (hi : ρ[i]? = some p) (hj : ρ[j]? = some q) (e : p.1 = q.1) : i = j := by
 have hn : (ρ.map (·.1)).Nodup := by simpa [IH] using h
 have h1 : (ρ.map (·.1))[i]? = some p.1 := by simp [hi]
 have h2 : (ρ.map (·.1))[j]? = some q.1 := by simp [hj]
 exact (List.getElem?_inj (List.getElem?_eq_some_iff.1 h1).1 hn).1 (by rw [h1, h2, e])
theorem XU (h : Cs B nb g w) (hρ : IH ρ = true) (_ : m ≤ ρ.length) : Cs B ρ.length (g.loc m ρ) w := by
 have bxd : ∀ {i b}, (g.loc m ρ).bx i = some b → ∃ p, ρ[i]? = some p ∧ i < m ∧ g.bx p.1 = some b := fun {i b} h => by
  simp only [G.loc] at h
  split at h
  ·rename_i hi
   split at h
   ·rename_i p hp; exact ⟨p, hp, hi, h⟩
   ·cases h
  ·cases h
 have rbd : ∀ {i b}, (g.loc m ρ).rb i = some b → ∃ p, ρ[i]? = some p ∧ g.rb p.1 = some b := fun {i b} h => by
  simp only [G.loc] at h
  split at h
  ·rename_i p hp; exact ⟨p, hp, h⟩
  ·cases h
 refine ⟨fun {i b} hb => ?_, fun {i b} hb => ?_, fun {i j v} hb => ?_, fun {i j b} h1 h2 => ?_, fun {i j b} h1 h2 => ?_, fun {i j b} h1 h2 => ?_, fun {b} hb => ?_, fun {i b} hb he => ?_, fun {i b} hb he => ?_, fun h => h.elim, h.base⟩
 ·obtain ⟨p, hp, hi, k⟩ := bxd hb; exact ⟨(h.bxlt k).1, (List.getElem?_eq_some_iff.1 hp).1⟩
 ·obtain ⟨p, hp, k⟩ := rbd hb; exact ⟨(h.rblt k).1, (List.getElem?_eq_some_iff.1 hp).1⟩
 ·simp only [G.loc] at hb
  split at hb
  ·rename_i hp; exact (List.getElem?_eq_some_iff.1 hp).1
  ·cases hb
 ·obtain ⟨p, hp, _, k⟩ := bxd h1; obtain ⟨q, hq, _, k'⟩ := bxd h2; exact Nt hρ hp hq (h.bxinj k k')
 ·obtain ⟨p, hp, k⟩ := rbd h1; obtain ⟨q, hq, k'⟩ := rbd h2; exact Nt hρ hp hq (h.rbinj k k')
 ·obtain ⟨p, hp, _, k⟩ := bxd h1; obtain ⟨q, hq, k'⟩ := rbd h2; exact h.apart k k'
 ·rcases hb.1 with k | ⟨_, k⟩ | ⟨_, k⟩
  ·exact h.exlt k
  ·exact (h.bxlt k).1
  ·exact (h.rblt k).1
 ·obtain ⟨p, hp, hi, k⟩ := bxd hb; exact (he.2 i p hp).1 hi k
 ·obtain ⟨p, hp, k⟩ := rbd hb; exact (he.2 i p hp).2 k
theorem XS (hs : AG B g w st) {AO : List E} (he : J7 m ρ st AO) : AG B (g.loc m ρ) w AO := by
 refine ⟨fun {i off v} hc => Fh hs he hc, fun {i o nw ver e sz l} hr => ?_, fun hl => (Iq he hl).elim⟩
 obtain ⟨rfl, k, v, hp, hr⟩ := JI he hr
 obtain ⟨u, xs, r1, r2, r3, r4, r5⟩ := hs.row hr
 refine ⟨u, xs, by simp only [G.loc, hp]; exact r1, by rw [Hd]; exact r2, ⟨r3.1, r3.2.1, fun j x hx => ?_⟩, r4, ?_⟩
 ·simp only [G.loc, hp] at hx
  split at hx
  ·omega
  ·cases hx
 ·rcases r5 with ⟨e1, e2, e3⟩ | ⟨e1, e2, e3⟩
  ·exact .inl ⟨e1, e2, by simp only [G.loc, hp]; exact e3⟩
  ·exact .inr ⟨e1, by simp only [G.loc, hp]; exact e2, by rw [Hd]; exact e3⟩
end
def Gu (m nb : Nat) (ρ : JQ) (i : Nat) : Option Nat := match Nat.blt i m with
 | true => (match ρ[i]? with | some p => some p.1 | none => none)
 | false => some (nb + (i - m))
def Mo (m nb : Nat) (ρ : JQ) (i ver : Nat) : Option (Nat × Nat) := match Nat.blt i m with
 | true => (match ρ[i]? with | some (k, some v) => some (k, v + ver) | _ => none)
 | false => some (nb + (i - m), ver)
mutual
def F5 (m nb : Nat) (ρ : JQ) : V → Option V
 | .d x => some (.d x)
 | .po _ _ => none
 | .ep l => some (.ep l)
 | .agg l => match GH m nb ρ l with
  | some r => some (.agg r)
  | none => none
 | .tup l => match GH m nb ρ l with
  | some r => some (.tup r)
  | none => none
 | .ptr i off => match Gu m nb ρ i with
  | some k => some (.ptr k off)
  | none => none
 | .sv i off n cap sz => match Gu m nb ρ i with
  | some k => some (.sv k off n cap sz)
  | none => none
 | .yl i => match Gu m nb ρ i with
  | some k => some (.yl k)
  | none => none
 | .rv i ver n => match Mo m nb ρ i ver with
  | some p => some (.rv p.1 p.2 n)
  | none => none
 | .row i ver => match Mo m nb ρ i ver with
  | some p => some (.row p.1 p.2)
  | none => none
 | .rp i ver sz a b => match Mo m nb ρ i ver with
  | some p => some (.rp p.1 p.2 sz a b)
  | none => none
 | .fn f fi ca => match GH m nb ρ fi with
  | some r => (match GH m nb ρ ca with
   | some q => some (.fn f r q)
   | none => none)
  | none => none
 | .ifc t x => match F5 m nb ρ x with
  | some r => some (.ifc t r)
  | none => none
def GH (m nb : Nat) (ρ : JQ) : List V → Option (List V)
 | [] => some []
 | x :: xs => match F5 m nb ρ x with
  | some y => (match GH m nb ρ xs with
   | some ys => some (y :: ys)
   | none => none)
  | none => none
end
def Ce (ks : List Nat) : List E → Option (List E)
 | [] => some []
 | .y k lp T tm :: r => (match Ce ks r with
  | some q => (match IS k ks with
   | true => some q
   | false => some (.y k lp T tm :: q))
  | none => none)
 | .c k off vs :: r => (match Ce ks r with
  | some q => (match IS k ks with
   | true => some q
   | false => some (.c k off vs :: q))
  | none => none)
 | .r o nw k ver e sz l :: r => (match Ce ks r with
  | some q => (match IS k ks with
   | true => some q
   | false => some (.r o nw k ver e sz l :: q))
  | none => none)
def Dh (m nb : Nat) (ρ : JQ) (tail : List E) : List E → Option (List E)
 | [] => some tail
 | .y _ _ _ _ :: r => Dh m nb ρ tail r
 | .c i off vs :: r => (match Dh m nb ρ tail r with
  | some q => (match Gu m nb ρ i with
   | some k => (match GH m nb ρ vs with
    | some us => some (.c k off us :: q)
    | none => none)
   | none => none)
  | none => none)
 | .r o nw i ver e sz l :: r => (match Dh m nb ρ tail r with
  | some q => (match Mo m nb ρ i ver with
   | some p => some (.r o nw p.1 p.2 e sz l :: q)
   | none => none)
  | none => none)
section
variable {m B nb nb1 : Nat} {ρ : JQ} {st : List E} {g g1 : G} {w w' : World}
theorem Cy {ks : List Nat} : ∀ {st r : List E}, Ce ks st = some r → ∀ {k off : Nat} {v : V}, Ap k off r = some v → k ∉ ks ∧ Ap k off st = some v
 | [], r, h, k, off, v, hc => by simp only [Ce, Option.some.injEq] at h; subst h; simp [Ap] at hc
 | .c k' o' vs :: st, r, h, k, off, v, hc => by
  simp only [Ce] at h
  split at h
  ·rename_i q hq
   split at h
   ·rename_i hm
    cases h
    obtain ⟨h1, h2⟩ := Cy hq hc
    refine ⟨h1, ?_⟩
    simp only [Ap]
    split
    ·rename_i hb
     have := Nat.eq_of_beq_eq_true hb
     subst this
     exact (h1 (EA.1 hm)).elim
    ·exact h2
   ·rename_i hm
    cases h
    simp only [Ap] at hc ⊢
    split at hc
    ·rename_i hb
     have := Nat.eq_of_beq_eq_true hb
     subst this
     have hk : k ∉ ks := fun hk => by rw [EA.2 hk] at hm; cases hm
     refine ⟨hk, ?_⟩
     split at hc
     ·split at hc
      ·exact hc
      ·exact (Cy hq hc).2
     ·exact (Cy hq hc).2
    ·exact Cy hq hc
  ·cases h
 | .r o nw k' ver e sz l :: st, r, h, k, off, v, hc => by
  simp only [Ce] at h
  simp only [Ap]
  split at h
  ·rename_i q hq
   split at h
   ·cases h; exact Cy hq hc
   ·cases h; simp only [Ap] at hc; exact Cy hq hc
  ·cases h
 | .y k' lp T tm :: st, r, h, k, off, v, hc => by
  simp only [Ce] at h
  simp only [Ap]
  split at h
  ·rename_i q hq
   split at h
   ·cases h; exact Cy hq hc
   ·cases h; simp only [Ap] at hc; exact Cy hq hc
  ·cases h
theorem DF {ks : List Nat} : ∀ {st r : List E}, Ce ks st = some r → ∀ {k : Nat} {lp}, Au k r = some lp → k ∉ ks ∧ Au k st = some lp
 | [], r, h, k, lp, hc => by simp only [Ce, Option.some.injEq] at h; subst h; simp [Au] at hc
 | .r .. :: st, r, h, k, lp, hc => by
  simp only [Ce] at h
  simp only [Au]
  split at h
  ·rename_i q hq
   split at h
   ·cases h; exact DF hq hc
   ·cases h; simp only [Au] at hc; exact DF hq hc
  ·cases h
 | .c .. :: st, r, h, k, lp, hc => by
  simp only [Ce] at h
  simp only [Au]
  split at h
  ·rename_i q hq
   split at h
   ·cases h; exact DF hq hc
   ·cases h; simp only [Au] at hc; exact DF hq hc
  ·cases h
 | .y k' lp' T' tm' :: st, r, h, k, lp, hc => by
  simp only [Ce] at h
  split at h
  ·rename_i q hq
   split at h
   ·rename_i hm
    cases h
    obtain ⟨h1, h2⟩ := DF hq hc
    refine ⟨h1, ?_⟩
    simp only [Au]
    split
    ·rename_i hb
     have := Nat.eq_of_beq_eq_true hb
     subst this
     exact (h1 (EA.1 hm)).elim
    ·exact h2
   ·rename_i hm
    cases h
    simp only [Au] at hc ⊢
    split at hc
    ·rename_i hb
     have := Nat.eq_of_beq_eq_true hb
     subst this
     have hk : k ∉ ks := fun hk => by rw [EA.2 hk] at hm; cases hm
     exact ⟨hk, hc⟩
    ·exact DF hq hc
  ·cases h
theorem Ei {ks : List Nat} : ∀ {st r : List E}, Ce ks st = some r → ∀ {k : Nat} {x}, AB k r = some x → k ∉ ks ∧ AB k st = some x
 | [], r, h, k, x, hc => by simp only [Ce, Option.some.injEq] at h; subst h; simp [AB] at hc
 | .r o nw k' ver e sz l :: st, r, h, k, x, hc => by
  simp only [Ce] at h
  split at h
  ·rename_i q hq
   split at h
   ·rename_i hm
    cases h
    obtain ⟨h1, h2⟩ := Ei hq hc
    refine ⟨h1, ?_⟩
    simp only [AB]
    split
    ·rename_i hb
     have := Nat.eq_of_beq_eq_true hb
     subst this
     exact (h1 (EA.1 hm)).elim
    ·exact h2
   ·rename_i hm
    cases h
    simp only [AB] at hc ⊢
    split at hc
    ·rename_i hb
     have := Nat.eq_of_beq_eq_true hb
     subst this
     have hk : k ∉ ks := fun hk => by rw [EA.2 hk] at hm; cases hm
     exact ⟨hk, hc⟩
    ·exact Ei hq hc
  ·cases h
 | .c k' o' vs :: st, r, h, k, x, hc => by
  simp only [Ce] at h
  simp only [AB]
  split at h
  ·rename_i q hq
   split at h
   ·cases h; exact Ei hq hc
   ·cases h; simp only [AB] at hc; exact Ei hq hc
  ·cases h
 | .y k' lp T tm :: st, r, h, k, x, hc => by
  simp only [Ce] at h
  simp only [AB]
  split at h
  ·rename_i q hq
   split at h
   ·cases h; exact Ei hq hc
   ·cases h; simp only [AB] at hc; exact Ei hq hc
  ·cases h
theorem Jw : ∀ {l r : List V}, GH m nb ρ l = some r → r.length = l.length ∧ ∀ {i : Nat} {y : V}, r[i]? = some y → ∃ x, l[i]? = some x ∧ F5 m nb ρ x = some y
 | [], r, h => by simp only [GH, Option.some.injEq] at h; subst h; simp
 | x :: xs, r, h => by
  simp only [GH] at h
  split at h
  ·rename_i y hy
   split at h
   ·rename_i ys hys
    cases h
    obtain ⟨h1, h2⟩ := Jw hys
    refine ⟨by simp [h1], fun {i z} hz => ?_⟩
    cases i with
    | zero => simp only [List.getElem?_cons_zero, Option.some.injEq] at hz ⊢; subst hz; exact ⟨x, rfl, hy⟩
    | succ i => simp only [List.getElem?_cons_succ] at hz ⊢; exact h2 hz
   ·cases h
  ·cases h
theorem Qu {i ver : Nat} {p : Nat × Nat} (h : Mo m nb ρ i ver = some p) : Gu m nb ρ i = some p.1 := by
 unfold Mo at h
 unfold Gu
 split at h
 ·split at h
  ·rename_i hp; cases h; simp [hp]
  ·cases h
 ·cases h; rfl
theorem Gw (hρ : IH ρ = true) (hlt : ∀ (i : Nat) (p : Nat × Option Nat), ρ[i]? = some p → p.1 < nb) {tail : List E} : ∀ {st1 r : List E}, Dh m nb ρ tail st1 = some r → ∀ {k off : Nat} {v : V}, Ap k off r = some v →
  (∃ i v1, Gu m nb ρ i = some k ∧ Ap i off st1 = some v1 ∧ F5 m nb ρ v1 = some v) ∨ Ap k off tail = some v
 | [], r, h, k, off, v, hc => by simp only [Dh, Option.some.injEq] at h; subst h; exact .inr hc
 | .c i o' vs :: st1, r, h, k, off, v, hc => by
  simp only [Dh] at h
  split at h
  ·rename_i q hq
   split at h
   ·rename_i k' hk'
    split at h
    ·rename_i us hus
     cases h
     have hrec : Ap k off q = some v → (∀ v1, Ap i off (.c i o' vs :: st1) = some v1 → k = k' → Ap i off st1 = some v1) → (∃ i' v1, Gu m nb ρ i' = some k ∧ Ap i' off (.c i o' vs :: st1) = some v1 ∧ F5 m nb ρ v1 = some v) ∨ Ap k off tail = some v := fun hc hsk => by
      rcases Gw hρ hlt hq hc with ⟨i', v1, e1, e2, e3⟩ | h
      ·refine .inl ⟨i', v1, e1, ?_, e3⟩
       simp only [Ap]
       split
       ·rename_i hb
        have := Nat.eq_of_beq_eq_true hb
        subst this
        rw [hk'] at e1; cases e1
        split
        ·split
         ·rename_i x hx
          have hz := hsk x (by simp only [Ap, Nat.beq_refl]; rename_i ho hx; simp [ho, hx]) rfl
          rw [hz] at e2; exact e2
         ·exact e2
        ·exact e2
       ·exact e2
      ·exact .inr h
     simp only [Ap] at hc
     split at hc
     ·rename_i hb
      have := Nat.eq_of_beq_eq_true hb
      subst this
      split at hc
      ·rename_i ho
       split at hc
       ·rename_i y hy
        cases hc
        obtain ⟨x, hx, hm⟩ := (Jw hus).2 hy
        exact .inl ⟨i, x, hk', by simp only [Ap, Nat.beq_refl, ho, hx], hm⟩
       ·rename_i hy
        refine hrec hc fun v1 h1 _ => ?_
        have : vs[off - o']? = none := by
         rw [List.getElem?_eq_none_iff] at hy ⊢
         rw [(Jw hus).1] at hy; exact hy
        simp only [Ap, Nat.beq_refl, ho, this] at h1; exact h1
      ·rename_i ho
       exact hrec hc fun v1 h1 _ => by simp only [Ap, Nat.beq_refl, ho] at h1; exact h1
     ·rename_i hb
      exact hrec hc fun v1 _ e => by subst e; rw [Nat.beq_refl] at hb; cases hb
    ·cases h
   ·cases h
  ·cases h
 | .r .. :: st1, r, h, k, off, v, hc => by
  simp only [Dh] at h
  split at h
  ·rename_i q hq
   split at h
   ·cases h
    simp only [Ap] at hc ⊢
    exact Gw hρ hlt hq hc
   ·cases h
  ·cases h
 | .y .. :: st1, r, h, k, off, v, hc => by
  simp only [Dh] at h
  simp only [Ap]
  exact Gw hρ hlt h hc
theorem Gv {tail : List E} : ∀ {st1 r : List E}, Dh m nb ρ tail st1 = some r → ∀ {k : Nat} {lp}, Au k r = some lp → Au k tail = some lp
 | [], r, h, k, lp, hc => by simp only [Dh, Option.some.injEq] at h; subst h; exact hc
 | .r .. :: st1, r, h, k, lp, hc => by
  simp only [Dh] at h
  split at h
  ·rename_i q hq
   split at h
   ·cases h; simp only [Au] at hc; exact Gv hq hc
   ·cases h
  ·cases h
 | .c .. :: st1, r, h, k, lp, hc => by
  simp only [Dh] at h
  split at h
  ·rename_i q hq
   split at h
   ·split at h
    ·cases h; simp only [Au] at hc; exact Gv hq hc
    ·cases h
   ·cases h
  ·cases h
 | .y .. :: st1, r, h, k, lp, hc => by
  simp only [Dh] at h
  exact Gv h hc
theorem HK (hρ : IH ρ = true) (hlt : ∀ (i : Nat) (p : Nat × Option Nat), ρ[i]? = some p → p.1 < nb) {tail : List E} : ∀ {st1 r : List E}, Dh m nb ρ tail st1 = some r → ∀ {k : Nat} {o nw ver e sz l}, AB k r = some (o, nw, ver, e, sz, l) →
  (∃ i v1, Mo m nb ρ i v1 = some (k, ver) ∧ AB i st1 = some (o, nw, v1, e, sz, l)) ∨ AB k tail = some (o, nw, ver, e, sz, l)
 | [], r, h, k, o, nw, ver, e, sz, l, hc => by simp only [Dh, Option.some.injEq] at h; subst h; exact .inr hc
 | .r o' nw' i ver' e' sz' l' :: st1, r, h, k, o, nw, ver, e, sz, l, hc => by
  simp only [Dh] at h
  split at h
  ·rename_i q hq
   split at h
   ·rename_i p hp
    cases h
    simp only [AB] at hc
    split at hc
    ·rename_i hb
     have := Nat.eq_of_beq_eq_true hb
     subst this
     cases hc
     exact .inl ⟨i, ver', hp, by simp only [AB, Nat.beq_refl]⟩
    ·rename_i hb
     rcases HK hρ hlt hq hc with ⟨i', v1, e1, e2⟩ | h
     ·refine .inl ⟨i', v1, e1, ?_⟩
      simp only [AB]
      split
      ·rename_i hb2
       have := Nat.eq_of_beq_eq_true hb2
       subst this
       have h1 := Qu hp
       have h2 := Qu e1
       rw [h1] at h2
       simp only [Option.some.injEq] at h2
       rw [← h2, Nat.beq_refl] at hb; cases hb
      ·exact e2
     ·exact .inr h
   ·cases h
  ·cases h
 | .y .. :: st1, r, h, k, o, nw, ver, e, sz, l, hc => by
  simp only [Dh] at h
  simp only [AB]
  exact HK hρ hlt h hc
 | .c .. :: st1, r, h, k, o, nw, ver, e, sz, l, hc => by
  simp only [Dh] at h
  split at h
  ·rename_i q hq
   split at h
   ·split at h
    ·cases h
     simp only [AB] at hc ⊢
     exact HK hρ hlt hq hc
    ·cases h
   ·cases h
  ·cases h
end

end Go.Proofs.YtbgcjnfhadhjeaaGreat