/- Walks by data and names, part 17: Contracts for functions that turn the caller's own, 2: the caller's state behind the call. Ranges over functions: the function is walked where it stands; what it calls is the loop's body. -/
import Derived.Test.YtbgcjnfhadhjeaaGreatQk16
namespace Go.Proofs.YtbgcjnfhadhjeaaGreat
set_option maxRecDepth 20000
open Go.RowKit
open Classical in
noncomputable def IY (m : Nat) (ρ : JT) (k : Nat) : Option (Nat × Option Nat) := if h : ∃ q : Nat × Option Nat, q.1 < m ∧ ρ[q.1]? = some (k, q.2) then some h.choose else none
theorem IX {m : Nat} {ρ : JT} (hρ : IS ρ = true) {i k : Nat} {v : Option Nat} (hi : i < m) (h : ρ[i]? = some (k, v)) : IY m ρ k = some (i, v) := by
 have hx : ∃ q : Nat × Option Nat, q.1 < m ∧ ρ[q.1]? = some (k, q.2) := ⟨(i, v), hi, h⟩
 unfold IY
 rw [dif_pos hx]
 have hc := hx.choose_spec
 have e : hx.choose.1 = i := Nn hρ hc.2 h rfl
 have h2 := hc.2
 rw [e, h] at h2
 simp only [Option.some.injEq, Prod.mk.injEq, true_and] at h2
 exact congrArg some (Prod.ext e h2.symm)
theorem Iu {m : Nat} {ρ : JT} {k : Nat} {q : Nat × Option Nat} (h : IY m ρ k = some q) : q.1 < m ∧ ρ[q.1]? = some (k, q.2) := by
 unfold IY at h
 split at h
 ·rename_i hx; cases h; exact hx.choose_spec
 ·cases h
def Lo (ρ : JT) : List Nat := ρ.map (·.1)
open Classical in
noncomputable def G.back (g g1 : G) (m nb : Nat) (ρ : JT) : G :=
  ⟨g.ex,
   fun k => if k < nb then (match g.bx k with | some b => some b | none => match IY m ρ k with | some q => g1.bx q.1 | none => none) else g1.bx (k - nb + m),
   fun k => if k < nb then (match IY m ρ k with | some q => g1.rb q.1 | none => if k ∈ Lo ρ then none else g.rb k) else g1.rb (k - nb + m),
   fun k ver => if k < nb then (match g.rw k ver with | some u => some u | none => match IY m ρ k with | some (i, some v) => if v ≤ ver then g1.rw i (ver - v) else none | _ => none) else g1.rw (k - nb + m) ver,
   g.pl, g.plex⟩
structure VmC (B m nb nb1 : Nat) (ρ : JT) (st : List E) (g g1 : G) (w w' : World) : Prop where
 rho : IS ρ = true
 lt : ∀ (i : Nat) (p : Nat × Option Nat), ρ[i]? = some p → p.1 < nb
 sim : AC B g w st
 inv : CG B nb g w
 ver : ∀ (i k v : Nat), ρ[i]? = some (k, some v) → ∀ j u, g.rw k j = some u → j ≤ v
 ext : Ei False m (g.loc m ρ) w g1 w'
 inv1 : CG B nb1 g1 w'
 le : m ≤ nb1
section
variable {B m nb nb1 : Nat} {ρ : JT} {st : List E} {g g1 : G} {w w' : World}
theorem Eh {i m : Nat} : Nat.blt i m = true ↔ i < m := ⟨fun h => Eg h, fun h => Nat.ble_eq_true_of_le h⟩
theorem Iv {i k : Nat} (h : GF m nb ρ i = some k) : (i < m ∧ ∃ v, ρ[i]? = some (k, v)) ∨ (m ≤ i ∧ k = nb + (i - m)) := by
 unfold GF at h
 split at h
 ·rename_i hb
  split at h
  ·rename_i p hp; simp only [Option.some.injEq] at h; subst h; exact .inl ⟨Eh.1 hb, p.2, hp⟩
  ·cases h
 ·rename_i hb
  simp only [Option.some.injEq] at h
  exact .inr ⟨Nat.le_of_not_lt fun hlt => (by rw [Eh.2 hlt] at hb; cases hb), h.symm⟩
theorem Rx {i : Nat} (h : m ≤ i) : GF m nb ρ i = some (nb + (i - m)) := by
 unfold GF
 rw [show Nat.blt i m = false from by
  cases hb : Nat.blt i m
  ·rfl
  ·have := Eh.1 hb; omega]
theorem NM {i k : Nat} {v : Option Nat} (h : i < m) (hp : ρ[i]? = some (k, v)) : GF m nb ρ i = some k := by
 unfold GF
 rw [Eh.2 h]
 simp only [hp]
namespace VmC
variable (h : VmC B m nb nb1 ρ st g g1 w w')
include h
theorem bx1 {i k b : Nat} (hk : GF m nb ρ i = some k) (hb : g1.bx i = some b) : (g.back g1 m nb ρ).bx k = some b := by
 rcases Iv hk with ⟨hi, v, hp⟩ | ⟨hi, rfl⟩
 ·have hlt := h.lt _ _ hp
  simp only at hlt
  simp only [G.back, if_pos hlt]
  split
  ·rename_i b0 hb0
   have : (g.loc m ρ).bx i = some b0 := by simp only [G.loc, hp]; rw [if_pos hi]; exact hb0
   rw [h.ext.bx hi this] at hb
   exact hb
  ·rw [IX h.rho hi hp]; exact hb
 ·simp only [G.back]
  rw [if_neg (by omega), show nb + (i - m) - nb + m = i by omega]; exact hb
theorem rb1 {i k : Nat} (hk : GF m nb ρ i = some k) : (g.back g1 m nb ρ).rb k = g1.rb i := by
 rcases Iv hk with ⟨hi, v, hp⟩ | ⟨hi, rfl⟩
 ·have hlt := h.lt _ _ hp
  simp only at hlt
  simp only [G.back, if_pos hlt]
  rw [IX h.rho hi hp]
 ·simp only [G.back]
  rw [if_neg (by omega), show nb + (i - m) - nb + m = i by omega]
theorem rw1 {i ver : Nat} {p : Nat × Nat} {u : Value} (hk : Mj m nb ρ i ver = some p) (hb : g1.rw i ver = some u) : (g.back g1 m nb ρ).rw p.1 p.2 = some u := by
 unfold Mj at hk
 split at hk
 ·rename_i hi
  have hi := Eh.1 hi
  split at hk
  ·rename_i k v hp
   cases hk
   have hlt := h.lt _ _ hp
   simp only at hlt
   simp only [G.back, if_pos hlt]
   split
   ·rename_i u0 hu0
    have hv := h.ver _ _ _ hp _ _ hu0
    have : ver = 0 := by omega
    subst this
    have : (g.loc m ρ).rw i 0 = some u0 := by simp only [G.loc, hp]; exact hu0
    rw [h.ext.rw hi this] at hb
    exact hb
   ·rw [IX h.rho hi hp]
    simp only
    rw [if_pos (by omega), show v + ver - v = ver by omega]; exact hb
  ·cases hk
 ·rename_i hi
  have hi : m ≤ i := Nat.le_of_not_lt fun hlt => by rw [Eh.2 hlt] at hi; cases hi
  cases hk
  simp only [G.back]
  rw [if_neg (by omega), show nb + (i - m) - nb + m = i by omega]; exact hb
theorem exo {b : Nat} (ho : g.own b) (hx : ∀ i p, ρ[i]? = some p → (i < m → g.bx p.1 ≠ some b) ∧ g.rb p.1 ≠ some b) : g1.ex b := by
 exact h.ext.ex _ ⟨ho, hx⟩
theorem exe {b : Nat} (he : g.ex b) : g1.ex b := h.exo (.inl he) fun _ _ _ => ⟨fun _ hb => h.inv.exbx hb he, fun hb => h.inv.exrb hb he⟩
theorem bxc {k b : Nat} (hb : (g.back g1 m nb ρ).bx k = some b) : (k < nb ∧ g.bx k = some b ∧ g1.ex b) ∨ ∃ i, GF m nb ρ i = some k ∧ g1.bx i = some b := by
 simp only [G.back] at hb
 split at hb
 ·rename_i hk
  split at hb
  ·rename_i b0 hb0
   cases hb
   by_cases hx : ∃ i v, i < m ∧ ρ[i]? = some (k, v)
   ·obtain ⟨i, v, hi, hp⟩ := hx
    have : (g.loc m ρ).bx i = some b := by simp only [G.loc, hp]; rw [if_pos hi]; exact hb0
    exact .inr ⟨i, NM hi hp, h.ext.bx hi this⟩
   ·refine .inl ⟨hk, hb0, h.exo (.inr (.inl ⟨k, hb0⟩)) fun i p hp => ⟨fun hi e => hx ⟨i, p.2, hi, ?_⟩, fun e => h.inv.apart hb0 e⟩⟩
    have := h.inv.bxinj hb0 e
    subst this; exact hp
  ·split at hb
   ·rename_i q hq
    obtain ⟨h1, h2⟩ := Iu hq
    exact .inr ⟨q.1, NM h1 h2, hb⟩
   ·cases hb
 ·rename_i hk
  exact .inr ⟨k - nb + m, by rw [Rx (by omega)]; congr 1; omega, hb⟩
theorem rbc {k b : Nat} (hb : (g.back g1 m nb ρ).rb k = some b) : (k < nb ∧ g.rb k = some b ∧ g1.ex b) ∨ ∃ i, GF m nb ρ i = some k ∧ g1.rb i = some b := by
 simp only [G.back] at hb
 split at hb
 ·rename_i hk
  split at hb
  ·rename_i q hq
   obtain ⟨h1, h2⟩ := Iu hq
   exact .inr ⟨q.1, NM h1 h2, hb⟩
  ·split at hb
   ·cases hb
   ·rename_i hn
    refine .inl ⟨hk, hb, h.exo (.inr (.inr ⟨k, hb⟩)) fun i p hp => ⟨fun _ e => h.inv.apart e hb, fun e => hn ?_⟩⟩
    have := h.inv.rbinj hb e
    subst this
    exact List.mem_map.2 ⟨p, List.mem_of_getElem? hp, rfl⟩
 ·rename_i hk
  exact .inr ⟨k - nb + m, by rw [Rx (by omega)]; congr 1; omega, hb⟩
theorem own {b : Nat} (ho : (g.back g1 m nb ρ).own b) : g1.own b := by
 rcases ho with ho | ⟨k, ho⟩ | ⟨k, ho⟩
 ·exact .inl (h.exe ho)
 ·rcases h.bxc ho with ⟨_, _, k⟩ | ⟨i, _, k⟩
  ·exact .inl k
  ·exact .inr (.inl ⟨i, k⟩)
 ·rcases h.rbc ho with ⟨_, _, k⟩ | ⟨i, _, k⟩
  ·exact .inl k
  ·exact .inr (.inr ⟨i, k⟩)
theorem prot {b : Nat} (hp : g1.prot b) : (g.back g1 m nb ρ).prot b := fun ho => hp (h.own ho)
theorem evo : BZ B g w (g.back g1 m nb ρ) w' := by
 refine ⟨h.ext.os, h.ext.tape, h.ext.output, h.ext.size, fun {k b} hb => ?_, fun {k i v} hv => ?_, fun b hb hp => ?_, fun _ h => h, fun b hb => ?_, .refl⟩
 ·simp only [G.back]
  rw [if_pos (h.inv.bxlt hb).2, hb]
 ·simp only [G.back]
  rw [if_pos (h.inv.rwlt hv), hv]
 ·have := h.ext.blk b hb (by rw [Hq]; exact hp)
  exact ⟨h.prot this.1, this.2⟩
 ·exact h.ext.exb b ⟨.inl hb, fun _ _ _ => ⟨fun _ e => h.inv.exbx e hb, fun e => h.inv.exrb e hb⟩⟩
theorem inv2 : CG B (nb + (nb1 - m)) (g.back g1 m nb ρ) w' := by
 have hle := h.le
 have hsz := h.ext.size
 have nlt : ∀ {i k}, GF m nb ρ i = some k → i < nb1 → k < nb + (nb1 - m) := fun {i k} hk hi => by
  rcases Iv hk with ⟨_, v, hp⟩ | ⟨_, rfl⟩
  ·have := h.lt _ _ hp; simp only at this; omega
  ·omega
 refine ⟨fun {k b} hb => ?_, fun {k b} hb => ?_, fun {k i v} hv => ?_, fun {k k' b} h1 h2 => ?_, fun {k k' b} h1 h2 => ?_, fun {k k' b} h1 h2 => ?_, fun {b} hb => by have := h.inv.exlt hb; omega, fun {k b} hb he => ?_, fun {k b} hb he => ?_, h.inv.plB, h.inv1.base⟩
 ·rcases h.bxc hb with ⟨hk, hb, _⟩ | ⟨i, hk, hb⟩
  ·have := (h.inv.bxlt hb).1; exact ⟨by omega, by omega⟩
  ·have := h.inv1.bxlt hb; exact ⟨this.1, nlt hk this.2⟩
 ·rcases h.rbc hb with ⟨hk, hb, _⟩ | ⟨i, hk, hb⟩
  ·have := (h.inv.rblt hb).1; exact ⟨by omega, by omega⟩
  ·have := h.inv1.rblt hb; exact ⟨this.1, nlt hk this.2⟩
 ·simp only [G.back] at hv
  split at hv
  ·omega
  ·have := h.inv1.rwlt hv; omega
 ·rcases h.bxc h1 with ⟨_, a1, a2⟩ | ⟨i, a1, a2⟩ <;> rcases h.bxc h2 with ⟨_, c1, c2⟩ | ⟨j, c1, c2⟩
  ·exact h.inv.bxinj a1 c1
  ·exact (h.inv1.exbx c2 a2).elim
  ·exact (h.inv1.exbx a2 c2).elim
  ·have := h.inv1.bxinj a2 c2; subst this; rw [a1] at c1; cases c1; rfl
 ·rcases h.rbc h1 with ⟨_, a1, a2⟩ | ⟨i, a1, a2⟩ <;> rcases h.rbc h2 with ⟨_, c1, c2⟩ | ⟨j, c1, c2⟩
  ·exact h.inv.rbinj a1 c1
  ·exact (h.inv1.exrb c2 a2).elim
  ·exact (h.inv1.exrb a2 c2).elim
  ·have := h.inv1.rbinj a2 c2; subst this; rw [a1] at c1; cases c1; rfl
 ·rcases h.bxc h1 with ⟨_, a1, a2⟩ | ⟨i, a1, a2⟩ <;> rcases h.rbc h2 with ⟨_, c1, c2⟩ | ⟨j, c1, c2⟩
  ·exact h.inv.apart a1 c1
  ·exact h.inv1.exrb c2 a2
  ·exact h.inv1.exbx a2 c2
  ·exact h.inv1.apart a2 c2
 ·rcases h.bxc hb with ⟨_, a1, _⟩ | ⟨i, a1, a2⟩
  ·exact h.inv.exbx a1 he
  ·exact h.inv1.exbx a2 (h.exe he)
 ·rcases h.rbc hb with ⟨_, a1, _⟩ | ⟨i, a1, a2⟩
  ·exact h.inv.exrb a1 he
  ·exact h.inv1.exrb a2 (h.exe he)
theorem ddp {x : D} {u : Value} (hu : drep B g1.prot w' x u) : drep B (g.back g1 m nb ρ).prot w' x u := A4 (Nat.le_refl _) (fun _ _ hb => ⟨h.prot hb, rfl⟩) hu
omit h
mutual
theorem vrepm (h : VmC B m nb nb1 ρ st g g1 w w') : ∀ {v1 v : V}, Gb m nb ρ v1 = some v → ∀ {u : Value}, vrep B g1 w' v1 u → vrep B (g.back g1 m nb ρ) w' v u
 | .d x, v, hv, u, hu => by simp only [Gb, Option.some.injEq] at hv; subst hv; simp only [vrep] at hu ⊢; exact h.ddp hu
 | .ep l, v, hv, u, hu => by
  simp only [Gb, Option.some.injEq] at hv; subst hv; simp only [vrep] at hu ⊢
  obtain ⟨b, o, cs, e, k1, k2⟩ := hu
  exact ⟨b, o, cs, e, k1.imp fun b hb => h.prot hb, Ew (Nat.le_refl _) (fun _ _ hb => ⟨h.prot hb, rfl⟩) k2⟩
 | .agg l, v, hv, u, hu => by
  simp only [Gb] at hv
  split at hv
  ·rename_i r hr; cases hv; simp only [vrep] at hu ⊢; obtain ⟨cs, e, k⟩ := hu; exact ⟨cs, e, KK h hr k⟩
  ·cases hv
 | .tup l, v, hv, u, hu => by
  simp only [Gb] at hv
  split at hv
  ·rename_i r hr; cases hv; simp only [vrep] at hu ⊢; obtain ⟨cs, e, k⟩ := hu; exact ⟨cs, e, KK h hr k⟩
  ·cases hv
 | .ptr i off, v, hv, u, hu => by
  simp only [Gb] at hv
  split at hv
  ·rename_i k hk; cases hv; simp only [vrep] at hu ⊢; obtain ⟨b, hb, e⟩ := hu; exact ⟨b, h.bx1 hk hb, e⟩
  ·cases hv
 | .sv i off n cap sz, v, hv, u, hu => by
  simp only [Gb] at hv
  split at hv
  ·rename_i k hk; cases hv; simp only [vrep] at hu ⊢; obtain ⟨b, hb, e⟩ := hu; exact ⟨b, h.bx1 hk hb, e⟩
  ·cases hv
 | .yl i, v, hv, u, hu => by
  simp only [Gb] at hv
  split at hv
  ·rename_i k hk; cases hv; simp only [vrep] at hu ⊢; obtain ⟨b, hb, e⟩ := hu; exact ⟨b, h.bx1 hk hb, e⟩
  ·cases hv
 | .rv i ver n, v, hv, u, hu => by
  simp only [Gb] at hv
  split at hv
  ·rename_i p hp; cases hv; simp only [vrep] at hu ⊢; obtain ⟨a, m, c, e, k⟩ := hu; exact ⟨a, m, c, h.rw1 hp e, k⟩
  ·cases hv
 | .row i ver, v, hv, u, hu => by
  simp only [Gb] at hv
  split at hv
  ·rename_i p hp; cases hv; simp only [vrep] at hu ⊢; exact ⟨h.rw1 hp hu.1, hu.2⟩
  ·cases hv
 | .rp i ver sz x y, v, hv, u, hu => by
  simp only [Gb] at hv
  split at hv
  ·rename_i p hp; cases hv; simp only [vrep] at hu ⊢; obtain ⟨b, n, c, e, k⟩ := hu; exact ⟨b, n, c, h.rw1 hp e, k⟩
  ·cases hv
 | .fn f fi ca, v, hv, u, hu => by
  simp only [Gb] at hv
  split at hv
  ·rename_i r hr
   split at hv
   ·rename_i q hq; cases hv; simp only [vrep] at hu ⊢; obtain ⟨xs, ys, e, k1, k2⟩ := hu; exact ⟨xs, ys, e, KK h hr k1, KK h hq k2⟩
   ·cases hv
  ·cases hv
 | .ifc t x, v, hv, u, hu => by
  simp only [Gb] at hv
  split at hv
  ·rename_i r hr; cases hv; simp only [vrep] at hu ⊢; obtain ⟨y, e, k⟩ := hu; exact ⟨y, e, vrepm h hr k⟩
  ·cases hv
theorem KK (h : VmC B m nb nb1 ρ st g g1 w w') : ∀ {v1 v : List V}, GV m nb ρ v1 = some v → ∀ {u : List Value}, vreps B g1 w' v1 u → vreps B (g.back g1 m nb ρ) w' v u
 | [], v, hv, u, hu => by simp only [GV, Option.some.injEq] at hv; subst hv; simp only [vreps] at hu ⊢; exact hu
 | x :: xs, v, hv, u, hu => by
  simp only [GV] at hv
  split at hv
  ·rename_i y hy
   split at hv
   ·rename_i ys hys
    cases hv
    simp only [vreps] at hu ⊢
    obtain ⟨z, zs, e, k1, k2⟩ := hu
    exact ⟨z, zs, e, vrepm h hy k1, KK h hys k2⟩
   ·cases hv
  ·cases hv
end
include h
omit h in
theorem _root_.Go.Proofs.YtbgcjnfhadhjeaaGreat.notinR {k : Nat} (hk : k ∉ Lo ρ) : ∀ (i : Nat) (v : Option Nat), ρ[i]? ≠ some (k, v) := fun _ _ hp => hk (List.mem_map.2 ⟨_, List.mem_of_getElem? hp, rfl⟩)
theorem sim2 {st1 tail r : List E} (hs1 : AC B g1 w' st1) (ht : CB (Lo ρ) st = some tail) (hr : Du m nb ρ tail st1 = some r) : AC B (g.back g1 m nb ρ) w' r := by
 refine ⟨fun {k off v} hc => ?_, fun {k o nw ver e sz l} hc => ?_, fun {k lp T tm0} hc => ?_⟩
 ·rcases GH h.rho h.lt hr hc with ⟨i, v1, e1, e2, e3⟩ | hc
  ·obtain ⟨b, rcs, ty, u, m1, m2, m3, m4⟩ := hs1.cell e2
   exact ⟨b, rcs, ty, u, h.bx1 e1 m1, m2, m3, h.vrepm e3 m4⟩
  ·obtain ⟨hk, hc⟩ := CT ht hc
   obtain ⟨b, rcs, ty, u, m1, m2, m3, m4⟩ := h.sim.cell hc
   refine ⟨b, rcs, ty, u, h.evo.bx m1, ?_, m3, h.evo.vrep m4⟩
   rw [h.ext.exb b ⟨.inr (.inl ⟨k, m1⟩), fun i p hp => ⟨fun _ e => notinR hk i p.2 (by have := h.inv.bxinj m1 e; subst this; exact hp), fun e => h.inv.apart m1 e⟩⟩]; exact m2
 ·rcases HW h.rho h.lt hr hc with ⟨i, v1, e1, e2⟩ | hc
  ·obtain ⟨v, xs, r1, r2, r3, r4, r5⟩ := hs1.row e2
   have hN := Qg e1
   have hrb := h.rb1 hN
   have d2 : drepss B (g.back g1 m nb ρ).prot w' l xs := AL (Nat.le_refl _) (fun _ _ hb => ⟨h.prot hb, rfl⟩) r2
   refine ⟨v, xs, h.rw1 e1 r1, d2, ⟨r3.1, r3.2.1, fun j x hx => ?_⟩, r4, ?_⟩
   ·simp only [G.back] at hx
    unfold Mj at e1
    split at e1
    ·rename_i hi
     have hi := Eh.1 hi
     split at e1
     ·rename_i k' v' hp
      cases e1
      rw [if_pos (h.lt _ _ hp)] at hx
      split at hx
      ·rename_i hu; have := h.ver _ _ _ hp _ _ hu; omega
      ·rw [IX h.rho hi hp] at hx
       simp only at hx
       split at hx
       ·have := r3.2.2 _ _ hx; omega
       ·cases hx
     ·cases e1
    ·rename_i hi
     have hi : m ≤ i := Nat.le_of_not_lt fun hlt => by rw [Eh.2 hlt] at hi; cases hi
     cases e1
     rw [if_neg (by omega), show nb + (i - m) - nb + m = i by omega] at hx
     exact r3.2.2 _ _ hx
   ·rcases r5 with ⟨a1, a2, a3⟩ | ⟨a1, a2, a3⟩
    ·exact .inl ⟨a1, a2, hrb.trans a3⟩
    ·exact .inr ⟨a1, hrb.trans a2, h.ddp a3⟩
  ·obtain ⟨hk, hc⟩ := Es ht hc
   obtain ⟨v, xs, r1, r2, r3, r4, r5⟩ := h.sim.row hc
   have hkn : k < nb := h.inv.rwlt r1
   have hpk : IY m ρ k = none := by
    cases hq : IY m ρ k with
    | none => rfl
    | some q => exact (notinR hk _ _ (Iu hq).2).elim
   have hrb : (g.back g1 m nb ρ).rb k = g.rb k := by simp only [G.back, if_pos hkn, hpk, if_neg hk]
   refine ⟨v, xs, h.evo.rw r1, h.evo.drepss r2, ⟨r3.1, r3.2.1, fun j x hx => ?_⟩, r4, ?_⟩
   ·simp only [G.back, if_pos hkn, hpk] at hx
    split at hx
    ·rename_i hu; exact r3.2.2 _ _ hu
    ·cases hx
   ·rcases r5 with ⟨a1, a2, a3⟩ | ⟨a1, a2, a3⟩
    ·refine .inl ⟨a1, ⟨a2.1, ?_⟩, hrb.trans a3⟩
     rcases a2.2 with q | ⟨gb, cap, cur, hv, hb, hh, rest⟩
     ·exact .inl q
     ·refine .inr ⟨gb, cap, cur, hv, hb, ?_, rest⟩
      have hgb : g.rb k = some gb := by rw [a3, hv]; rfl
      rw [h.ext.exb gb ⟨.inr (.inr ⟨k, hgb⟩), fun i p hp => ⟨fun _ e => h.inv.apart e hgb, fun e => notinR hk i p.2 (by have := h.inv.rbinj hgb e; subst this; exact hp)⟩⟩]; exact hh
    ·exact .inr ⟨a1, hrb.trans a2, h.evo.drep a3⟩
 ·obtain ⟨hk, hc⟩ := DQ ht (GG hr hc)
  obtain ⟨h1, h2⟩ := h.sim.loop hc
  refine ⟨fun r e => let ⟨b, m1, m2⟩ := h1 r e; ⟨b, h.evo.bx m1, ?_⟩, fun ht => h.evo.vrep (h2 ht)⟩
  rw [h.ext.exb b ⟨.inr (.inl ⟨k, m1⟩), fun i p hp => ⟨fun _ e => notinR hk i p.2 (by have := h.inv.bxinj m1 e; subst this; exact hp), fun e => h.inv.apart m1 e⟩⟩]; exact m2
end VmC
def Rw (m nb : Nat) (ρ : JT) : RC → Option RC
 | .ret v => match Gb m nb ρ v with
  | some x => some (.ret x)
  | none => none
 | .panic v => match Gb m nb ρ v with
  | some x => some (.panic x)
  | none => none
def K3 (nb : Nat) (st : List E) : JT → Bool
 | [] => true
 | (k, none) :: r => (match Nat.blt k nb with
  | true => K3 nb st r
  | false => false)
 | (k, some v) :: r => (match Nat.blt k nb with
  | true => (match Az k st with
   | some (_, _, v', _, _, _) => (match Nat.beq v v' with
    | true => K3 nb st r
    | false => false)
   | none => false)
  | false => false)
theorem Iq (hs : AC B g w st) : ∀ {ρ : JT}, K3 nb st ρ = true → (∀ (i : Nat) (p : Nat × Option Nat), ρ[i]? = some p → p.1 < nb) ∧ (∀ (i k v : Nat), ρ[i]? = some (k, some v) → ∀ j u, g.rw k j = some u → j ≤ v)
 | [], _ => ⟨fun _ _ h => by simp at h, fun _ _ _ h => by simp at h⟩
 | (k, none) :: r, h => by
  simp only [K3] at h
  split at h
  ·rename_i hb
   obtain ⟨h1, h2⟩ := Iq hs h
   refine ⟨fun i p hp => ?_, fun i k' v hp => ?_⟩
   ·cases i with
    | zero => simp only [List.getElem?_cons_zero, Option.some.injEq] at hp; subst hp; exact Eh.1 hb
    | succ i => exact h1 i p (by simpa using hp)
   ·cases i with
    | zero => simp at hp
    | succ i => exact h2 i k' v (by simpa using hp)
  ·cases h
 | (k, some v0) :: r, h => by
  simp only [K3] at h
  split at h
  ·rename_i hb
   split at h
   ·rename_i hr
    split at h
    ·rename_i hv
     have hv := Nat.eq_of_beq_eq_true hv
     subst hv
     obtain ⟨h1, h2⟩ := Iq hs h
     refine ⟨fun i p hp => ?_, fun i k' v hp => ?_⟩
     ·cases i with
      | zero => simp only [List.getElem?_cons_zero, Option.some.injEq] at hp; subst hp; exact Eh.1 hb
      | succ i => exact h1 i p (by simpa using hp)
     ·cases i with
      | zero =>
       simp only [List.getElem?_cons_zero, Option.some.injEq, Prod.mk.injEq] at hp
       obtain ⟨rfl, rfl⟩ := hp
       obtain ⟨_, _, _, _, r3, _⟩ := hs.row hr
       exact fun j u hu => r3.2.2 j u hu
      | succ i => exact h2 i k' v (by simpa using hp)
    ·cases h
   ·cases h
  ·cases h
theorem Abl {P : Program} {cx : Cx} {s : St} {Q : VE → St → Prop} {ops rest : List Oper} {t : Tmp} {x : Operand} {xs : Array Operand} {tys : Array TypeId} {ty : TypeId} {pos : String} {af : Array Edge} {gd : Option (Nat × Bool)} {v : V} {f : FuncId} {vs az vs0 : List V} {m : Nat} {AO : List E} {K : RC → List E → Nat → Prop} (ρ : JT)
  (hc : VM P f m vs0 AO ρ.length K) (hx : Af s x = some v) (hv : AY s xs.toList = some vs) (hf : GL v vs = some (f, az)) (ha : LZ m ρ s.st vs0 az) (he : Kc m ρ s.st AO) (hρ : IS ρ = true) (hin : K3 s.nb s.st ρ = true) (hm : Nat.ble m ρ.length = true) (hw : Wd ops s.tm gd) (ht : Nat.blt t cx.N = true)
  {tail : List E} (htl : CB (Lo ρ) s.st = some tail)
  (k : ∀ r st1 nb1, K r st1 nb1 → ∃ st2 r2, Du m s.nb ρ tail st1 = some st2 ∧ Rw m s.nb ρ r = some r2 ∧ LH P cx ops rest t s.tm Q r2 st2 (s.nb + (nb1 - m))) :
  VL P cx ops (⟨some t, .call { callee := .value x, args := xs, argTypes := tys }, ty, pos, af, gd⟩ :: rest) s Q := fun n g0 w0 g a w hE hS => by
 simp only [BH]
 rw [if_pos (Wd.wanted (o := ⟨some t, _, ty, pos, af, gd⟩) hS hw)]
 refine ⟨fun _ _ => trivial, ?_⟩
 rw [Oper.semAt_plain (FW cx.rd) _ _ (by intro c e; cases e)]
 obtain ⟨zs, hrun, hzs⟩ := EN (P := P) (w := w) (dst := some t) (tys := tys) (ty := ty) (pos := pos) (af := af) (gd := gd) (hc 0).1 hS hx hv hf
 rw [hrun, Oper.uponIn_enter]
 refine ⟨(fun h => by cases h), ?_⟩
 obtain ⟨hlt, hver⟩ := Iq hS.st hin
 have hcall := (hc cx.B).2 (g.loc m ρ) w zs (XU hS.st he) (XW hS.inv hρ (Nat.le_of_ble_eq_true hm)) (ha.get hS.st hzs)
 have hmem : ∀ (r : Ending → World → Prop), Calls P f zs.toArray w r → CallsIn (FW cx.rd) (n - 1) P f zs.toArray w r := fun r h =>
  ⟨trivial, fun cs _ => by
   obtain ⟨e, w', fr, hr, hcm, hx⟩ := h cs
   refine ⟨e, w', fr, hr, ?_, hx⟩
   have := comesIn_wide.2 hcm
   cases e with
   | returned v => exact StepsIn.mono (fun m _ => Bh P cx.rd m) this
   | panicked ch => exact StepsIn.mono (fun m _ => Bh P cx.rd m) this
   | outgrown => exact this⟩
 refine (hmem _ hcall).mono ?_
 rintro e w' ⟨g1, st1, nb1, r, k1, k2, k3, k4, k5, k6⟩
 have hV : VmC cx.B m s.nb nb1 ρ s.st g g1 w w' := ⟨hρ, hlt, hS.st, hS.inv, hver, k1, k3, k6⟩
 obtain ⟨st2, r2, q1, q2, q3⟩ := k r st1 nb1 k5
 cases r with
 | ret v =>
  obtain ⟨u, rfl, hu⟩ := k4
  simp only [Rw] at q2
  split at q2
  ·rename_i x hx
   cases q2
   exact q3 n g0 w0 _ _ w' (hE.trans hV.evo) (hS.put hV.evo (Nat.le_of_ble_eq_true ht) (hV.sim2 k2 htl q1) hV.inv2 (hV.vrepm hx hu))
  ·cases q2
 | panic v =>
  obtain ⟨u, rfl, hu⟩ := k4
  simp only [Rw] at q2
  split at q2
  ·rename_i x hx
   cases q2
   exact ⟨_, _, .panic x, hE.trans hV.evo, hS.same hV.evo (hV.sim2 k2 htl q1) hV.inv2, ⟨u, rfl, hV.vrepm hx hu⟩, q3⟩
  ·cases q2
def Dk (P : Program) (f : FuncId) (m : Nat) (vs : List V) (st : List E) (nb : Nat) (r1 : RC) (st1 : List E) (nb1 : Nat) : Prop := VM P f m vs st nb fun r s n => r = r1 ∧ s = st1 ∧ n = nb1
theorem Am {P : Program} {cx : Cx} {Q : VE → St → Prop} {ops rest : List Oper} {tm : List (Nat × V)} {t : Tmp} {x : Operand} {xs : Array Operand} {tys : Array TypeId} {ty : TypeId} {pos : String} {af : Array Edge} {gd : Option (Nat × Bool)} {v : V} {f : FuncId} {vs az vs0 : List V} {m nb0 nb1 : Nat} {AO st1 st2 : List E} {r r2 : RC} (ρ : JT)
  (hc : Dk P f m vs0 AO nb0 r st1 nb1) {tail : List E} (k : LH P cx ops rest t tm Q r2 st2 (nb + (nb1 - m)))
  (hn : nb0 = ρ.length := by rfl) (hx : Af ⟨tm, st, nb⟩ x = some v := by rfl) (hv : AY ⟨tm, st, nb⟩ xs.toList = some vs := by rfl) (hf : GL v vs = some (f, az) := by rfl)
  (ha : LZ m ρ st vs0 az := by ((repeat' (first | exact QD | refine Oh ?_ ?_ | exact QF | exact Tc | exact QC rfl rfl | exact QB rfl | refine QG ?_ | refine QE ?_ | refine Tb ?_ ?_ | exact Yq rfl (by infer_instance))); fail_if_success (focus skip)))
  (he : Kc m ρ st AO := by ((repeat' (first | exact trivial | refine ⟨⟨rfl, _, _, rfl, rfl⟩, ?_⟩ | refine ⟨⟨_, _, rfl, rfl, rfl, ?_⟩, ?_⟩ | exact QD | refine Oh ?_ ?_ | exact QF | exact Tc | exact QC rfl rfl | exact QB rfl | refine QG ?_ | refine QE ?_ | refine Tb ?_ ?_ | exact Yq rfl (by infer_instance))); fail_if_success (focus skip)))
  (hρ : IS ρ = true := by decide) (hin : K3 nb st ρ = true := by rfl) (hm : Nat.ble m ρ.length = true := by rfl) (hw : Wd ops tm gd := by first | exact trivial | exact A1 rfl rfl (by with_reducible rfl)) (ht : Nat.blt t cx.N = true := by rfl)
  (htl : CB (Lo ρ) st = some tail := by rfl) (h2 : Du m nb ρ tail st1 = some st2 := by rfl) (h3 : Rw m nb ρ r = some r2 := by rfl) :
  VL P cx ops (⟨some t, .call { callee := .value x, args := xs, argTypes := tys }, ty, pos, af, gd⟩ :: rest) ⟨tm, st, nb⟩ Q := by
 subst hn
 exact Abl ρ hc hx hv hf ha he hρ hin hm hw ht htl fun r' s n ⟨e1, e2, e3⟩ => by subst e1; subst e2; subst e3; exact ⟨st2, r2, h2, h3, k⟩
end
def mK (m : Nat) (K : RC → List E → Nat → Prop) : RC → List E → Nat → Prop := fun r s n => K r s n ∧ m ≤ n
theorem Pz {P : Program} {f : FuncId} {fn : Func} {c : Code} {B m : Nat} {vs : List V} {st : List E} {nb : Nat} {K : RC → List E → Nat → Prop} (hf : P.funcs[f]? = some fn) (hb : fn.body = some c) {N : Nat} (hN : fn.ntmps = N) {rs : List ResultVar} (hrs0 : fn.results = rs.toArray)
  (h : ∀ M, VW P ⟨N, none, B, m, some M, []⟩ c ⟨CF 0 vs, st, nb⟩ (Hl P rs (mK m K))) (hle : Nat.ble vs.length N = true := by rfl) (hname : (fn.name == "runtime.NumGoroutine") = false := by kernel_rfl) : SP P f B m vs st nb K := by
 refine ⟨Bu hf hname (by rw [hb]; rfl), ?_⟩
 have hrs : fn.results.toList = rs := by rw [hrs0]
 intro g w us hs hi hus
 rw [← callsIn_wide (n := 0)]
 refine callsIn_of_wp_marks hf hb trivial ?_
 have hS : Dg ⟨N, none, B, m, some w.heap.size, []⟩ g { tmps := us.toArray ++ Array.replicate (fn.ntmps - us.toArray.size) undef, defers := [] } w ⟨CF 0 vs, st, nb⟩ := by
  rw [hN]
  have := Gr (N := N) (nb := nb) (M := some w.heap.size) (df := []) hus hle hs hi ⟨(fun _ h => by first | (cases h; fail_if_success (focus skip)) | (cases h; exact Nat.le_refl _)), [], [], rfl, by simp, by simp, rfl⟩
  exact ⟨this.size, this.tm, this.st, this.inv, this.defers⟩
 refine wpIn_mono (h w.heap.size 0 g w g _ w (Ei.refl _ _ _ _) hS) ?_
 rintro e a' w' ⟨g', s', e', hE, hS', he, hq⟩
 have hE := hE.strict hi fun h => by cases h; exact Nat.le_refl _
 obtain ⟨_, bs, rr, hds, hnd, hbs0, hrr⟩ := hS'.defers
 have hbs : ∀ b ∈ bs, g'.prot b ∧ w.heap.size ≤ b ∧ w'.heap[b]? = some (.deferred (some [])) := fun b hb => by
  obtain ⟨h1, ⟨m, h2, h3⟩, h4⟩ := hbs0 b hb
  cases h2; exact ⟨h1, h3, h4⟩
 simp only [Mr] at hrr
 rw [hrr, List.append_nil] at hds
 have hown : ∀ {w2}, Left bs w' w2 → ∀ b, g'.own b → w2.heap[b]? = w'.heap[b]? := fun hl b hb => hl.block b fun hm => (hbs b hm).1 hb
 have hleft : ∀ {w2}, Left bs w' w2 → Ei False m g w g' w2 := fun {w2} hl =>
  ⟨hl.os.trans hE.os, hl.tape.trans hE.tape, hl.output.trans hE.output, by rw [hl.size]; exact hE.size, hE.bx, hE.rw, fun b hlt hp => ⟨(hE.blk b hlt hp).1, (hl.block b fun hm => by have := (hbs b hm).2.1; omega).trans (hE.blk b hlt hp).2⟩, hE.ex,
   fun b he _ => (hl.block b fun hm => by have := (hbs b hm).2.1; have := hi.exlt he; omega).trans (hE.exb b he), hE.pl, fun b hp hlt => by rw [hl.block b fun hm => by have := (hbs b hm).2.1; omega]; exact hE.blur b hp hlt⟩
 have hret : (∃ vs, Cr P s' rs vs ∧ (K (.ret (Dq vs)) s'.st s'.nb ∧ m ≤ s'.nb)) →
   LeavesInM Fence.wide 0 P fn a'.tmps (fun e w' => ∃ g' st' nb' r, Ei False m g w g' w' ∧ AC B g' w' st' ∧ CG B nb' g' w' ∧ Hb B g' w' r e ∧ K r st' nb' ∧ m ≤ nb') a'.defers .returning w' := by
  rintro ⟨vs, hv, hq, hmn⟩
  rw [hds]
  refine B9 (by simp) bs w' hnd (fun b hb => (hbs b hb).2.2) fun w2 hl => ?_
  have C := DR hl fun b hb => (hbs b hb).2.2
  obtain ⟨u, h1, h2⟩ := Cr.all (fn := fn) hS' (hown hl) (by rw [hrs]; exact hv)
  simp only [LeavesIn]
  exact ⟨u, h1, g', s'.st, s'.nb, .ret (Dq vs), hleft hl, De C hS'.st, hS'.inv.evo (by rw [hl.size]; exact Nat.le_refl _), ⟨u, rfl, BW C h2⟩, hq, hmn⟩
 cases e' with
 | normal => simp only [BV] at he; subst he; exact hret hq
 | ret => simp only [BV] at he; subst he; exact hret hq
 | panic v =>
  obtain ⟨u, rfl, hu⟩ := he
  simp only [bodyPostM]
  rw [hds]
  refine B9 (by simp) bs w' hnd (fun b hb => (hbs b hb).2.2) fun w2 hl => ?_
  have C := DR hl fun b hb => (hbs b hb).2.2
  simp only [LeavesIn]
  exact ⟨g', s'.st, s'.nb, .panic v, hleft hl, De C hS'.st, hS'.inv.evo (by rw [hl.size]; exact Nat.le_refl _), ⟨u, rfl, BW C hu⟩, hq.1, hq.2⟩
 | exit id => exact hq.elim
 | goto l => exact hq.elim
theorem Abj {P : Program} {f : FuncId} {fn : Func} {c : Code} {m : Nat} {vs : List V} {st : List E} {nb : Nat} {K : RC → List E → Nat → Prop} (hf : P.funcs[f]? = some fn) (hb : fn.body = some c) {N : Nat} (hN : fn.ntmps = N) {rs : List ResultVar} (hrs0 : fn.results = rs.toArray)
  (h : ∀ B M, VW P ⟨N, none, B, m, some M, []⟩ c ⟨CF 0 vs, st, nb⟩ (Hl P rs (mK m K))) (hle : Nat.ble vs.length N = true := by rfl) (hname : (fn.name == "runtime.NumGoroutine") = false := by kernel_rfl) : VM P f m vs st nb K := fun B => Pz hf hb hN hrs0 (h B) hle hname

theorem Ei.unm {N B m k : Nat} {rd : Option Nat} {df : List (FuncId × List V)} {g g' : G} {w w' : World} (h : Ei (Cx.sp ⟨N, rd, B, m, none, df⟩) k g w g' w') : Ei False k g w g' w' := h.up fun e => (by cases e)
theorem Ei.trans2 {sp : Prop} {m : Nat} {g g1 g2 : G} {w w1 w2 : World} (h : Ei sp m g w g1 w1) (k : Ei False m g1 w1 g2 w2) : Ei sp m g w g2 w2 :=
  ⟨k.os.trans h.os, k.tape.trans h.tape, k.output.trans h.output, Nat.le_trans h.size k.size, fun hk e => k.bx hk (h.bx hk e), fun hk e => k.rw hk (h.rw hk e),
   fun b hb hp => let ⟨h1, h2⟩ := h.blk b hb hp; let ⟨k1, k2⟩ := k.blk b (Nat.lt_of_lt_of_le hb h.size) h1; ⟨k1, k2.trans h2⟩,
   fun b hb => k.ex b (h.ex b hb), fun b hb hn => (k.exb b (h.ex b hb)).trans (h.exblk b hb hn), h.pl.trans k.pl h.size, fun b hb hlt => J9 (h.blur b hb hlt) (k.blur b ((h.pl b).1 hb) (Nat.lt_of_lt_of_le hlt h.size))⟩
theorem BZ.ext {B : Nat} {g g' : G} {w w' : World} (h : BZ B g w g' w') (sp : Prop) (m : Nat) : Ei sp m g w g' w' := (Ei.refl sp m g w).trans h
def DX (k : Nat) : List E → Option (List E)
 | [] => some []
 | .y k' lp T tm :: r => (match DX k r with
  | some q => (match Nat.beq k k' with
   | true => some q
   | false => some (.y k' lp T tm :: q))
  | none => none)
 | .c i off vs :: r => (match DX k r with
  | some q => some (.c i off vs :: q)
  | none => none)
 | .r o nw i ver e sz l :: r => (match DX k r with
  | some q => some (.r o nw i ver e sz l :: q)
  | none => none)
theorem Fq {k : Nat} : ∀ {st q : List E}, DX k st = some q → (∀ i o, Aq i o q = Aq i o st) ∧ (∀ i, Az i q = Az i st) ∧ ∀ i, i ≠ k → Au i q = Au i st
 | [], q, h => by simp only [DX, Option.some.injEq] at h; subst h; exact ⟨fun _ _ => rfl, fun _ => rfl, fun _ _ => rfl⟩
 | .y k' lp T tm :: r, q, h => by
  simp only [DX] at h
  split at h
  ·rename_i q' hq
   obtain ⟨h1, h2, h3⟩ := Fq hq
   split at h
   ·rename_i hb
    cases h
    refine ⟨fun i o => by simp only [Aq]; exact h1 i o, fun i => by simp only [Az]; exact h2 i, fun i hi => ?_⟩
    have := Nat.eq_of_beq_eq_true hb
    subst this
    simp only [Au]
    rw [show Nat.beq i k = false from by
     cases hb : Nat.beq i k
     ·rfl
     ·exact (hi (Nat.eq_of_beq_eq_true hb)).elim]
    exact h3 i hi
   ·cases h
    refine ⟨fun i o => by simp only [Aq]; exact h1 i o, fun i => by simp only [Az]; exact h2 i, fun i hi => ?_⟩
    simp only [Au]
    split
    ·rfl
    ·exact h3 i hi
  ·cases h
 | .c .. :: r, q, h => by
  simp only [DX] at h
  split at h
  ·rename_i q' hq
   obtain ⟨h1, h2, h3⟩ := Fq hq
   cases h
   refine ⟨fun i o => by simp only [Aq, h1], fun i => by simp only [Az]; exact h2 i, fun i hi => by simp only [Au]; exact h3 i hi⟩
  ·cases h
 | .r .. :: r, q, h => by
  simp only [DX] at h
  split at h
  ·rename_i q' hq
   obtain ⟨h1, h2, h3⟩ := Fq hq
   cases h
   refine ⟨fun i o => by simp only [Aq]; exact h1 i o, fun i => by simp only [Az, h2], fun i hi => by simp only [Au]; exact h3 i hi⟩
  ·cases h
theorem Eu {k : Nat} : ∀ {st q : List E}, DX k st = some q → Au k q = none
 | [], q, h => by simp only [DX, Option.some.injEq] at h; subst h; rfl
 | .y k' lp T tm :: r, q, h => by
  simp only [DX] at h
  split at h
  ·rename_i q' hq
   split at h
   ·cases h; exact Eu hq
   ·rename_i hb
    cases h
    simp only [Au, hb]; exact Eu hq
  ·cases h
 | .c .. :: r, q, h => by
  simp only [DX] at h
  split at h
  ·rename_i q' hq; cases h; simp only [Au]; exact Eu hq
  ·cases h
 | .r .. :: r, q, h => by
  simp only [DX] at h
  split at h
  ·rename_i q' hq; cases h; simp only [Au]; exact Eu hq
  ·cases h
def Hp (N : Nat) : List (Nat × V) → Option (List (Nat × V))
 | [] => some []
 | (t, v) :: r => match Hp N r with
  | some q => (match Nat.blt t N with
   | true => some ((t, v) :: q)
   | false => some q)
  | none => none
theorem Gc {N : Nat} : ∀ {tm q : List (Nat × V)}, Hp N tm = some q → ∀ {t v}, AA t q = some v → t < N ∧ AA t tm = some v
 | [], q, h, t, v, hv => by simp only [Hp, Option.some.injEq] at h; subst h; simp [AA] at hv
 | (t', v') :: r, q, h, t, v, hv => by
  simp only [Hp] at h
  split at h
  ·rename_i q' hq
   split at h
   ·rename_i hb
    cases h
    simp only [AA] at hv ⊢
    split at hv
    ·rename_i he
     have := Nat.eq_of_beq_eq_true he
     subst this
     exact ⟨Eg hb, hv⟩
    ·exact Gc hq hv
   ·rename_i hb
    cases h
    obtain ⟨h1, h2⟩ := Gc hq hv
    refine ⟨h1, ?_⟩
    simp only [AA]
    split
    ·rename_i he
     have := Nat.eq_of_beq_eq_true he
     subst this
     rw [Eh.2 h1] at hb; cases hb
    ·exact h2
  ·cases h
structure Fu (N : Nat) (ps : Array Tmp) (assign body : Code) (R : Loop) (T : Array Value) : Prop where
 state : R.state = .ready
 pending : R.pending = none
 params : R.params = ps
 assign : R.assign = assign
 body : R.body = body
 size : R.tmps.size = N
 low : ∀ t, t < N → T.getD t undef = R.tmps.getD t undef
section
variable {B nb nb' k : Nat} {g g' : G} {w w' : World} {st st' : List E}
theorem Ks (hi : CG B nb g w) (hs : AC B g w st) {lp : Loop} {T : Array Value} {tm : List (Nat × V)} (hl : Au k st = some (some lp, T, tm)) :
  ∃ l, g.bx k = some l ∧ w.heap[l]? = some (.loop lp) ∧ ∀ lp', BZ B g w g (w.putObj l (.loop lp')) ∧ CG B nb g (w.putObj l (.loop lp')) ∧
   (∀ q, DX k st = some q → AC B g (w.putObj l (.loop lp')) q) ∧ AC B g (w.putObj l (.loop lp')) (.y k (some lp') T tm :: st) := by
 obtain ⟨h1, h2⟩ := hs.loop hl
 obtain ⟨l, m1, m2⟩ := h1 lp rfl
 refine ⟨l, m1, m2, fun lp' => ?_⟩
 have hlt := (Array.getElem?_eq_some_iff.1 m2).1
 have hg : w.grownBy (w.putObj l (.loop lp')) (some l) := grownBy_putObj' w l _
 have hE : BZ B g w g (w.putObj l (.loop lp')) := BZ.of_grown hi hg (.inl ⟨k, m1⟩)
 have hnew : (w.putObj l (.loop lp')).heap[l]? = some (.loop lp') := World.putObj_heap_same hlt
 have hoth : ∀ b, b ≠ l → (w.putObj l (.loop lp')).heap[b]? = w.heap[b]? := fun b hb => World.putObj_heap_other hb
 have hcell : ∀ {i o v}, Aq i o st = some v → ∃ b rcs ty u, g.bx i = some b ∧ (w.putObj l (.loop lp')).heap[b]? = some (.cells rcs ty (0, 0)) ∧ rcs[o]? = some u ∧ vrep B g (w.putObj l (.loop lp')) v u := fun {i o v} hc => by
  obtain ⟨b, rcs, ty, u, a1, a2, a3, a4⟩ := hs.cell hc
  exact ⟨b, rcs, ty, u, a1, (hoth b fun e => by subst e; rw [m2] at a2; cases a2).trans a2, a3, hE.vrep a4⟩
 have hrow : ∀ {i o nw ver e sz l2}, Az i st = some (o, nw, ver, e, sz, l2) → _ := fun {i o nw ver e sz l2} hr => hs.keepRow hE hg rfl rfl (fun b hb e => by cases e; exact hi.apart m1 hb) hr
 have hloop : ∀ {i r T' tm'}, i ≠ k → Au i st = some (r, T', tm') → (∀ lp0, r = some lp0 → ∃ b, g.bx i = some b ∧ (w.putObj l (.loop lp')).heap[b]? = some (.loop lp0)) ∧ ∀ {t v}, AA t tm' = some v → vrep B g (w.putObj l (.loop lp')) v (T'.getD t undef) := fun {i r T' tm'} hik hl' => by
  obtain ⟨a1, a2⟩ := hs.loop hl'
  exact ⟨fun lp0 e => let ⟨b, c1, c2⟩ := a1 lp0 e; ⟨b, c1, (hoth b fun e => by subst e; exact hik (hi.bxinj c1 m1)).trans c2⟩, fun ht => hE.vrep (a2 ht)⟩
 refine ⟨hE, hi.evo (by simp), fun q hq => ?_, ⟨fun {i o v} hc => ?_, fun {i o nw ver e sz l2} hr => ?_, fun {i r T' tm'} hl' => ?_⟩⟩
 ·obtain ⟨d1, d2, d3⟩ := Fq hq
  have d4 := Eu hq
  refine ⟨fun {i o v} hc => hcell (by rw [← d1]; exact hc), fun {i o nw ver e sz l2} hr => hrow (by rw [← d2]; exact hr), fun {i r T' tm'} hl' => ?_⟩
  by_cases e : i = k
  ·subst e; rw [d4] at hl'; cases hl'
  ·exact hloop e (by rw [← d3 i e]; exact hl')
 ·simp only [Aq] at hc; exact hcell hc
 ·simp only [Az] at hr; exact hrow hr
 ·simp only [Au] at hl'
  split at hl'
  ·rename_i hb
   have := Nat.eq_of_beq_eq_true hb
   subst this
   cases hl'
   exact ⟨fun lp0 e => by cases e; exact ⟨l, m1, hnew⟩, fun ht => hE.vrep (h2 ht)⟩
  ·rename_i hb
   exact hloop (fun e => by subst e; rw [Nat.beq_refl] at hb; cases hb) hl'
end

end Go.Proofs.YtbgcjnfhadhjeaaGreat