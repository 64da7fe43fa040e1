/- Walks by data and names, part 11: Loops in walks: the state at the head, said again in each round; rows are named anew there, and what is no longer used is forgotten. -/
import Derived.Test.YtbgcjnfhadhjeaaGreatPk10
namespace Go.Proofs.YtbgcjnfhadhjeaaGreat
set_option maxRecDepth 20000
open Go.RowKit
theorem D6 {k n : Nat} (h : Nat.blt k n = true) : k < n := Nat.le_of_ble_eq_true h
section
variable {B : Nat} {g : G} {w : World}
theorem FF {k : Nat} {st : List E} : ∀ {n o : Nat} {vs : List V}, AM k o st n = some vs → ∀ {i : Nat} {v : V}, vs[i]? = some v → Ap k (o + i) st = some v
 | 0, o, vs, h, i, v, hv => by simp only [AM, Option.some.injEq] at h; subst h; simp at hv
 | n + 1, o, vs, h, i, v, hv => by
  simp only [AM] at h
  split at h
  ·cases h
  ·rename_i x hx
   split at h
   ·cases h
   ·rename_i xs hxs
    cases h
    cases i with
    | zero => simp at hv; subst hv; exact hx
    | succ i => simp at hv; have := FF hxs hv; rwa [show o + 1 + i = o + (i + 1) by omega] at this
end
def IS (k : Nat) : List Nat → Bool
 | [] => false
 | x :: xs => match Nat.beq k x with
  | true => true
  | false => IS k xs
theorem EA {k : Nat} : ∀ {l : List Nat}, IS k l = true ↔ k ∈ l
 | [] => by simp [IS]
 | x :: xs => by
  simp only [IS, List.mem_cons]
  split
  ·rename_i h; simp [Nat.eq_of_beq_eq_true h]
  ·rename_i h
   rw [EA]
   constructor
   ·exact .inr
   ·rintro (rfl | h2)
    ·rw [Nat.beq_refl] at h; cases h
    ·exact h2
def Sb (cx : Cx) (s s' : St) : Prop := ∀ g0 w0 g a w, D8 cx.sp cx.m g0 w0 g w → C7 cx g a w s → ∃ g', D8 cx.sp cx.m g0 w0 g' w ∧ C7 cx g' a w s'
abbrev Ren := List (Nat × Nat × Nat)
def DY (k : Nat) : Ren → Option (Nat × Nat)
 | [] => none
 | (k', a, v) :: r => match Nat.beq k k' with
  | true => some (a, v)
  | false => DY k r
def G.ren (g : G) (ρ : Ren) (n : Nat) : G :=
  ⟨g.ex, fun k => if k < n then g.bx k else none,
   fun k => if k < n then (match DY k ρ with | some p => g.rb p.1 | none => if IS k (ρ.map (·.2.1)) = true then none else g.rb k) else none,
   fun k ver => if k < n then (match DY k ρ with | some p => if ver = 0 then g.rw p.1 p.2 else none | none => g.rw k ver) else none, g.pl, g.plex⟩
def GF (m : Nat) (ρ : Ren) : Bool := decide ((ρ.map (·.1)).Nodup) && decide ((ρ.map (·.2.1)).Nodup) && ρ.all fun p => decide (m ≤ p.1)
theorem HL {k : Nat} {p : Nat × Nat} : ∀ {ρ : Ren}, DY k ρ = some p → ∃ i : Nat, ρ[i]? = some (k, p.1, p.2)
 | [], h => by simp [DY] at h
 | (k', a, v) :: r, h => by
  simp only [DY] at h
  split at h
  ·rename_i hb
   have := Nat.eq_of_beq_eq_true hb
   subst this
   cases h
   exact ⟨0, rfl⟩
  ·obtain ⟨i, hi⟩ := HL h
   exact ⟨i + 1, by simpa using hi⟩
theorem Ig {m : Nat} {ρ : Ren} (h : GF m ρ = true) : (∀ {k k' : Nat} {p q : Nat × Nat}, DY k ρ = some p → DY k' ρ = some q → p.1 = q.1 → k = k') ∧ (∀ {k : Nat} {p : Nat × Nat}, DY k ρ = some p → m ≤ k ∧ IS p.1 (ρ.map (·.2.1)) = true) := by
 simp only [GF, Bool.and_eq_true, decide_eq_true_eq, List.all_eq_true] at h
 refine ⟨fun {k k' p q} h1 h2 e => ?_, fun {k p} h1 => ?_⟩
 ·obtain ⟨i, hi⟩ := HL h1
  obtain ⟨j, hj⟩ := HL h2
  have e1 : (ρ.map (·.2.1))[i]? = some p.1 := by simp [hi]
  have e2 : (ρ.map (·.2.1))[j]? = some q.1 := by simp [hj]
  have : i = j := (List.getElem?_inj (List.getElem?_eq_some_iff.1 e1).1 h.1.2).1 (e1.trans (by rw [e2, e]))
  subst this
  rw [hi] at hj; simp only [Option.some.injEq, Prod.mk.injEq] at hj; exact hj.1
 ·obtain ⟨i, hi⟩ := HL h1
  have hm := List.mem_of_getElem? hi
  exact ⟨h.2 _ hm, EA.2 (List.mem_map.2 ⟨_, hm, rfl⟩)⟩
section
variable {B n nb m : Nat} {ρ : Ren} {g : G} {w : World} {st : List E}
theorem W9 {b : Nat} (h : (g.ren ρ n).own b) : g.own b := by
 rcases h with h | ⟨k, h⟩ | ⟨k, h⟩
 ·exact .inl h
 ·simp only [G.ren] at h
  split at h
  ·exact .inr (.inl ⟨k, h⟩)
  ·cases h
 ·simp only [G.ren] at h
  split at h
  ·split at h
   ·exact .inr (.inr ⟨_, h⟩)
   ·split at h
    ·cases h
    ·exact .inr (.inr ⟨k, h⟩)
  ·cases h
theorem CX {b : Nat} (h : g.prot b) : (g.ren ρ n).prot b := fun ho => h (W9 ho)
theorem Nv (h : Cs B nb g w) (hρ : GF m ρ = true) : Cs B n (g.ren ρ n) w := by
 obtain ⟨hi, hk⟩ := Ig hρ
 have bxd : ∀ {k b}, (g.ren ρ n).bx k = some b → k < n ∧ g.bx k = some b := fun {k b} hb => by
  simp only [G.ren] at hb
  split at hb
  ·rename_i hn; exact ⟨hn, hb⟩
  ·cases hb
 have rbd : ∀ {k b}, (g.ren ρ n).rb k = some b → k < n ∧ ((∃ p, DY k ρ = some p ∧ g.rb p.1 = some b) ∨ (DY k ρ = none ∧ IS k (ρ.map (·.2.1)) = false ∧ g.rb k = some b)) := fun {k b} hb => by
  simp only [G.ren] at hb
  split at hb
  ·rename_i hn
   refine ⟨hn, ?_⟩
   split at hb
   ·rename_i p hp; exact .inl ⟨p, hp, hb⟩
   ·rename_i hp
    split at hb
    ·cases hb
    ·rename_i hm; exact .inr ⟨hp, by simpa using hm, hb⟩
  ·cases hb
 refine ⟨fun {k b} hb => ?_, fun {k b} hb => ?_, fun {k j v} hb => ?_, fun {i j b} h1 h2 => ?_, fun {i j b} h1 h2 => ?_, fun {i j b} h1 h2 => ?_, h.exlt, fun {i b} hb he => ?_, fun {i b} hb he => ?_, h.plB, h.base⟩
 ·obtain ⟨h1, h2⟩ := bxd hb; exact ⟨(h.bxlt h2).1, h1⟩
 ·obtain ⟨h1, ⟨p, _, h2⟩ | ⟨_, _, h2⟩⟩ := rbd hb
  ·exact ⟨(h.rblt h2).1, h1⟩
  ·exact ⟨(h.rblt h2).1, h1⟩
 ·simp only [G.ren] at hb
  split at hb
  ·assumption
  ·cases hb
 ·exact h.bxinj (bxd h1).2 (bxd h2).2
 ·obtain ⟨_, ⟨p, a1, a2⟩ | ⟨a1, a2, a3⟩⟩ := rbd h1 <;> obtain ⟨_, ⟨q, c1, c2⟩ | ⟨c1, c2, c3⟩⟩ := rbd h2
  ·exact hi a1 c1 (h.rbinj a2 c2)
  ·have := h.rbinj a2 c3; have h3 := (hk a1).2; rw [this, c2] at h3; cases h3
  ·have := h.rbinj c2 a3; have h3 := (hk c1).2; rw [this, a2] at h3; cases h3
  ·exact h.rbinj a3 c3
 ·obtain ⟨_, ⟨q, c1, c2⟩ | ⟨c1, c2, c3⟩⟩ := rbd h2
  ·exact h.apart (bxd h1).2 c2
  ·exact h.apart (bxd h1).2 c3
 ·exact h.exbx (bxd hb).2 he
 ·obtain ⟨_, ⟨q, c1, c2⟩ | ⟨c1, c2, c3⟩⟩ := rbd hb
  ·exact h.exrb c2 he
  ·exact h.exrb c3 he
def KH (n : Nat) (ρ : Ren) (st : List E) (vl vc : V) : Prop := ∀ B g w u, AG B g w st → vrep B g w vc u → vrep B (g.ren ρ n) w vl u
def Oe (n : Nat) (ρ : Ren) (st : List E) (vl vc : List V) : Prop := ∀ B g w u, AG B g w st → vreps B g w vc u → vreps B (g.ren ρ n) w vl u
theorem Dr : Oe n ρ st [] [] := fun _ _ _ _ _ h => by simpa only [vreps] using h
theorem CF {x y : V} {xs ys : List V} (h : KH n ρ st x y) (hs : Oe n ρ st xs ys) : Oe n ρ st (x :: xs) (y :: ys) := fun B g w u k h2 => by
 simp only [vreps] at h2 ⊢
 obtain ⟨z, zs, e, k1, k2⟩ := h2
 exact ⟨z, zs, e, h _ _ _ _ k k1, hs _ _ _ _ k k2⟩
theorem GE {x y : D} {v : V} (h : Fw st v = some y) (hd : DL y x) : KH n ρ st (.d x) v := fun B g w u k hu => by
 have := ED k h hu
 simp only [vrep]
 exact A7 (Nat.le_refl _) (fun b _ hb => ⟨CX hb, rfl⟩) (hd.le _ _ _ _ _ this)
theorem Dt {v : V} : KH n ρ st (.d .any) v := fun B g w u _ _ => by simp only [vrep, drep]
theorem EL {x : D} : KH n ρ st (.d x) (.d x) := fun B g w u _ hu => by
 simp only [vrep] at hu ⊢
 exact A7 (Nat.le_refl _) (fun b _ hb => ⟨CX hb, rfl⟩) hu
theorem EI {e : Bool} {x : D} : KH n ρ st (.po e x) (.po e x) := fun B g w u _ hu => by
 simp only [vrep] at hu ⊢; exact hu
theorem Dq {e : Bool} {x : D} : KH n ρ st (.po false x) (.po e x) := fun B g w u _ hu => by
 simp only [vrep] at hu ⊢; obtain ⟨y, h, k⟩ := hu; exact ⟨y, SP h, k⟩
theorem EK {x : List D} : KH n ρ st (.ep x) (.ep x) := fun B g w u _ hu => by
 simp only [vrep] at hu ⊢
 obtain ⟨b, o, cs, e, k1, k2⟩ := hu
 exact ⟨b, o, cs, e, k1.imp fun b hb => CX hb, Fm (Nat.le_refl _) (fun b _ hb => ⟨CX hb, rfl⟩) k2⟩
theorem Dp {i off : Nat} (hi : Nat.blt i n = true) : KH n ρ st (.ptr i off) (.ptr i off) := fun B g w u _ hu => by
 simp only [vrep] at hu ⊢
 obtain ⟨b, hb, e⟩ := hu
 exact ⟨b, by simp only [G.ren]; rw [if_pos (D6 hi)]; exact hb, e⟩
theorem EH {i off l c sz : Nat} (hi : Nat.blt i n = true) : KH n ρ st (.sv i off l c sz) (.sv i off l c sz) := fun B g w u _ hu => by
 simp only [vrep] at hu ⊢
 obtain ⟨b, hb, e⟩ := hu
 exact ⟨b, by simp only [G.ren]; rw [if_pos (D6 hi)]; exact hb, e⟩
theorem EG {i : Nat} (hi : Nat.blt i n = true) : KH n ρ st (.yl i) (.yl i) := fun B g w u _ hu => by
 simp only [vrep] at hu ⊢
 obtain ⟨b, hb, e⟩ := hu
 exact ⟨b, by simp only [G.ren]; rw [if_pos (D6 hi)]; exact hb, e⟩
theorem Dn {i k v : Nat} (hi : Nat.blt i n = true) (h : DY i ρ = some (k, v)) : KH n ρ st (.row i 0) (.row k v) := fun B g w u _ hu => by
 simp only [vrep] at hu ⊢
 exact ⟨by simp only [G.ren, h]; rw [if_pos (D6 hi)]; simp only [if_true]; exact hu.1, hu.2⟩
theorem CE {i v : Nat} (hi : Nat.blt i n = true) (h : DY i ρ = none) : KH n ρ st (.row i v) (.row i v) := fun B g w u _ hu => by
 simp only [vrep] at hu ⊢
 exact ⟨by simp only [G.ren, h]; rw [if_pos (D6 hi)]; exact hu.1, hu.2⟩
theorem Du {xs ys : List V} (h : Oe n ρ st xs ys) : KH n ρ st (.agg xs) (.agg ys) := fun B g w u k hu => by
 simp only [vrep] at hu ⊢
 obtain ⟨cs, e, hu⟩ := hu
 exact ⟨cs, e, h _ _ _ _ k hu⟩
theorem Dm {xs ys : List V} (h : Oe n ρ st xs ys) : KH n ρ st (.tup xs) (.tup ys) := fun B g w u k hu => by
 simp only [vrep] at hu ⊢
 obtain ⟨cs, e, hu⟩ := hu
 exact ⟨cs, e, h _ _ _ _ k hu⟩
theorem Ds {t : TypeId} {x y : V} (h : KH n ρ st x y) : KH n ρ st (.ifc t x) (.ifc t y) := fun B g w u k hu => by
 simp only [vrep] at hu ⊢
 obtain ⟨cs, e, hu⟩ := hu
 exact ⟨cs, e, h _ _ _ _ k hu⟩
theorem EJ {f : Fn} {xs ys xs' ys' : List V} (h : Oe n ρ st xs ys) (h' : Oe n ρ st xs' ys') : KH n ρ st (.fn f xs xs') (.fn f ys ys') := fun B g w u k hu => by
 simp only [vrep] at hu ⊢
 obtain ⟨a, b, e, k1, k2⟩ := hu
 exact ⟨a, b, e, h _ _ _ _ k k1, h' _ _ _ _ k k2⟩
def TmR (n : Nat) (ρ : Ren) (st : List E) (tm : List (Nat × V)) : List (Nat × V) → Prop
 | [] => True
 | (t, v') :: r => (∃ v, AE t tm = some v ∧ KH n ρ st v' v) ∧ TmR n ρ st tm r
theorem KS {tm : List (Nat × V)} (hs : AG B g w st) : ∀ {r : List (Nat × V)}, TmR n ρ st tm r → ∀ {t v'}, AE t r = some v' → ∃ v, AE t tm = some v ∧ ∀ u, vrep B g w v u → vrep B (g.ren ρ n) w v' u
 | [], _, t, v, h => by simp [AE] at h
 | (t', v') :: r, hs', t, v, h => by
  simp only [AE] at h
  split at h
  ·rename_i hb
   have := Nat.eq_of_beq_eq_true hb
   subst this
   cases h
   obtain ⟨⟨v0, h1, h2⟩, _⟩ := hs'
   exact ⟨v0, h1, fun u => h2 B g w u hs⟩
  ·exact KS hs hs'.2 h
def Jf (n : Nat) (ρ : Ren) (st : List E) : List E → Prop
 | [] => True
 | .c k off vs :: r => (Nat.blt k n = true ∧ ∃ vs', AM k off st vs.length = some vs' ∧ Oe n ρ st vs vs') ∧ Jf n ρ st r
 | .r o nw k ver e sz l :: r => (Nat.blt k n = true ∧ ((ver = 0 ∧ ∃ a v, DY k ρ = some (a, v) ∧ AB a st = some (o, nw, v, e, sz, l)) ∨ (DY k ρ = none ∧ IS k (ρ.map (·.2.1)) = false ∧ AB k st = some (o, nw, ver, e, sz, l)))) ∧ Jf n ρ st r
 | .y k lp T tm :: r => (Nat.blt k n = true ∧ ∃ tm', Au k st = some (lp, T, tm') ∧ TmR n ρ st tm' tm) ∧ Jf n ρ st r
theorem DO (hs : AG B g w st) : ∀ {AO : List E}, Jf n ρ st AO → ∀ {i off : Nat} {v : V}, Ap i off AO = some v → ∃ b rcs ty u, (g.ren ρ n).bx i = some b ∧ w.heap[b]? = some (.cells rcs ty (0, 0)) ∧ rcs[off]? = some u ∧ vrep B (g.ren ρ n) w v u
 | [], _, i, off, v, h => by simp [Ap] at h
 | .c i' o' vs :: r, he, i, off, v, h => by
  simp only [Ap] at h
  split at h
  ·rename_i hi
   have := Nat.eq_of_beq_eq_true hi
   subst this
   split at h
   ·rename_i ho
    have ho := Nat.le_of_ble_eq_true ho
    split at h
    ·rename_i v' hv
     cases h
     obtain ⟨⟨hm, vs', hc, hle⟩, _⟩ := he
     have hlen := (List.getElem?_eq_some_iff.1 hv).1
     have hlen2 := EC hc
     obtain ⟨y, hy⟩ : ∃ y, vs'[off - o']? = some y := ⟨_, List.getElem?_eq_getElem (by omega)⟩
     have h1 := FF hc hy
     rw [show o' + (off - o') = off by omega] at h1
     obtain ⟨b, rcs, ty, u, m1, m2, m3, m4⟩ := hs.cell h1
     obtain ⟨us, q1, q2⟩ := FE hs m1 hc
     obtain ⟨z, hz, hz2⟩ := Ck q1 hy
     have hzu : z = u := by
      obtain ⟨b', o2, e, _, e3⟩ := q2 _ _ hz
      cases e
      have : w.cell? ⟨b, o' + (off - o'), none⟩ = some u := by
       rw [show o' + (off - o') = off by omega, cell_of_row w b off rcs ty (0, 0) m2]; exact m3
      rw [this] at e3; cases e3; rfl
     subst hzu
     obtain ⟨z', hz', hz2'⟩ := Ck (hle _ _ _ _ hs q1) hv
     rw [hz] at hz'; cases hz'
     exact ⟨b, rcs, ty, z, by simp only [G.ren]; rw [if_pos (D6 hm)]; exact m1, m2, m3, hz2'⟩
    ·exact DO hs he.2 h
   ·exact DO hs he.2 h
  ·exact DO hs he.2 h
 | .r .. :: r, he, i, off, v, h => by
  simp only [Ap] at h
  exact DO hs he.2 h
 | .y .. :: r, he, i, off, v, h => by
  simp only [Ap] at h
  exact DO hs he.2 h
theorem Fb (hs : AG B g w st) : ∀ {AO : List E}, Jf n ρ st AO → ∀ {i : Nat} {lp : Option Loop} {T : Array Value} {tm : List (Nat × V)}, Au i AO = some (lp, T, tm) → (∀ r, lp = some r → ∃ b, (g.ren ρ n).bx i = some b ∧ w.heap[b]? = some (.loop r)) ∧ ∀ {t v}, AE t tm = some v → vrep B (g.ren ρ n) w v (T.getD t undef)
 | [], _, i, lp, T, tm, h => by simp [Au] at h
 | .c .. :: r, he, i, lp, T, tm, h => by simp only [Au] at h; exact Fb hs he.2 h
 | .r .. :: r, he, i, lp, T, tm, h => by simp only [Au] at h; exact Fb hs he.2 h
 | .y .. :: r, he, i, lp, T, tm, h => by
  simp only [Au] at h
  split at h
  ·rename_i hb
   have := Nat.eq_of_beq_eq_true hb
   subst this
   cases h
   obtain ⟨⟨hn, tm', hl, htm⟩, _⟩ := he
   obtain ⟨h1, h2⟩ := hs.loop hl
   refine ⟨fun r e => ?_, fun ht => ?_⟩
   ·obtain ⟨b, m1, m2⟩ := h1 r e
    exact ⟨b, by simp only [G.ren]; rw [if_pos (D6 hn)]; exact m1, m2⟩
   ·obtain ⟨v0, e1, e2⟩ := KS hs htm ht
    exact e2 _ (h2 e1)
  ·exact Fb hs he.2 h
theorem Gc (hs : AG B g w st) : ∀ {AO : List E}, Jf n ρ st AO → ∀ {k : Nat} {o nw ver e sz l}, AB k AO = some (o, nw, ver, e, sz, l) → ∃ v xs, (g.ren ρ n).rw k ver = some v ∧ drepss B (g.ren ρ n).prot w l xs ∧ ((∀ x ∈ l, x.length = sz) ∧ (∀ u ∈ xs, u.oneCell' = true) ∧ ∀ i v', (g.ren ρ n).rw k i = some v' → i ≤ ver) ∧ (nw = true → ∀ b, v.ownBlock = some b → B ≤ b) ∧
  ((o = true ∧ w.ownsRow 0 e sz v l.length xs ∧ (g.ren ρ n).rb k = v.ownBlock) ∨ (o = false ∧ (g.ren ρ n).rb k = none ∧ drep B (g.ren ρ n).prot w (.sl false nw l) v))
 | [], _, k, o, nw, ver, e, sz, l, h => by simp [AB] at h
 | .c .. :: r, he, k, o, nw, ver, e, sz, l, h => by
  simp only [AB] at h
  exact Gc hs he.2 h
 | .y .. :: r, he, k, o, nw, ver, e, sz, l, h => by
  simp only [AB] at h
  exact Gc hs he.2 h
 | .r .. :: r, he, k, o, nw, ver, e, sz, l, h => by
  simp only [AB] at h
  split at h
  ·rename_i hb
   have := Nat.eq_of_beq_eq_true hb
   subst this
   cases h
   obtain ⟨⟨hn, hk⟩, _⟩ := he
   have hn := D6 hn
   have hp : ∀ {x u}, drep B g.prot w x u → drep B (g.ren ρ n).prot w x u := fun hu => A7 (Nat.le_refl _) (fun b _ hb => ⟨CX hb, rfl⟩) hu
   rcases hk with ⟨rfl, a, v, h1, h2⟩ | ⟨h1, hm, h2⟩
   ·obtain ⟨x, xs, r1, r2, r3, r4, r5⟩ := hs.row h2
    refine ⟨x, xs, by simp only [G.ren, if_pos hn, h1, if_true]; exact r1, AL (Nat.le_refl _) (fun b _ hb => ⟨CX hb, rfl⟩) r2, ⟨r3.1, r3.2.1, fun i v' hv => ?_⟩, r4, ?_⟩
    ·simp only [G.ren, if_pos hn, h1] at hv
     split at hv
     ·omega
     ·cases hv
    ·rcases r5 with ⟨e1, e2, e3⟩ | ⟨e1, e2, e3⟩
     ·exact .inl ⟨e1, e2, by simp only [G.ren, if_pos hn, h1]; exact e3⟩
     ·exact .inr ⟨e1, by simp only [G.ren, if_pos hn, h1]; exact e2, hp e3⟩
   ·obtain ⟨x, xs, r1, r2, r3, r4, r5⟩ := hs.row h2
    refine ⟨x, xs, by simp only [G.ren, if_pos hn, h1]; exact r1, AL (Nat.le_refl _) (fun b _ hb => ⟨CX hb, rfl⟩) r2, ⟨r3.1, r3.2.1, fun i v' hv => ?_⟩, r4, ?_⟩
    ·simp only [G.ren, if_pos hn, h1] at hv
     exact r3.2.2 i v' hv
    ·rcases r5 with ⟨e1, e2, e3⟩ | ⟨e1, e2, e3⟩
     ·exact .inl ⟨e1, e2, by simp only [G.ren, if_pos hn, h1, hm]; exact e3⟩
     ·exact .inr ⟨e1, by simp only [G.ren, if_pos hn, h1, hm]; exact e2, hp e3⟩
  ·exact Gc hs he.2 h
def DfR (n : Nat) (ρ : Ren) (st : List E) : List (FuncId × List V) → Prop
 | [] => True
 | (_, vs) :: r => Oe n ρ st vs vs ∧ DfR n ρ st r
theorem YP (hs : AG B g w st) : ∀ {df : List (FuncId × List V)}, DfR n ρ st df → ∀ {ds : List Deferred}, Ng B g w df ds → Ng B (g.ren ρ n) w df ds
 | [], _, _, h => h
 | (_, _) :: _, hd, _, ⟨us, r, e, h1, h2⟩ => ⟨us, r, e, hd.1 _ _ _ _ hs h1, YP hs hd.2 h2⟩
theorem Rc {cx : Cx} {tm tm' : List (Nat × V)} {st' : List E} {nb' : Nat} (ρ : Ren) (h1 : TmR nb' ρ st tm tm') (h2 : Jf nb' ρ st st') (hd : DfR nb' ρ st cx.df) (hρ : GF cx.m ρ = true) (h3 : Nat.ble cx.m nb' = true) : Sb cx ⟨tm, st, nb⟩ ⟨tm', st', nb'⟩ := fun g0 w0 g a w hE hS => by
 have hm := Nat.le_of_ble_eq_true h3
 obtain ⟨hi, hk⟩ := Ig hρ
 have hno : ∀ {k}, k < cx.m → DY k ρ = none := fun {k} hlt => by
  cases hq : DY k ρ with
  | none => rfl
  | some p => have := (hk hq).1; omega
 refine ⟨g.ren ρ nb', ⟨hE.os, hE.tape, hE.output, hE.size, fun hk e => ?_, fun hk e => ?_, fun b hb hp => ⟨CX (hE.blk b hb hp).1, (hE.blk b hb hp).2⟩, hE.ex, hE.exblk, hE.pl, hE.blur⟩,
  ⟨hS.size, fun hx => ?_, ⟨fun hc => DO hS.st h2 hc, fun hr => Gc hS.st h2 hr, fun hl => Fb hS.st h2 hl⟩, Nv hS.inv hρ, ?_⟩⟩
 ·simp only [G.ren]; rw [if_pos (by omega)]; exact hE.bx hk e
 ·simp only [G.ren]; rw [if_pos (by omega), hno hk]; exact hE.rw hk e
 ·obtain ⟨v, e1, e2⟩ := KS hS.st h1 hx
  exact e2 _ (hS.tm e1)
 ·obtain ⟨hm0, bs, r, e, hn, hb, hr⟩ := hS.defers
  exact ⟨hm0, bs, r, e, hn, fun b hb' => ⟨CX (hb b hb').1, (hb b hb').2⟩, YP hS.st hd hr⟩
end
section
variable {P : Program} {cx : Cx} {s : St} {Q : VE → St → Prop}
theorem Y0 {c : Code} {s' : St} (h : Sb cx s s') (k : VW P cx c s' Q) : VW P cx c s Q := fun n g0 w0 g a w hE hS =>
 let ⟨g', h1, h2⟩ := h g0 w0 g a w hE hS; k n g0 w0 g' a w h1 h2
theorem Zb {ops rest : List Oper} {s' : St} (h : Sb cx s s') (k : VL P cx ops rest s' Q) : VL P cx ops rest s Q := fun n g0 w0 g a w hE hS =>
 let ⟨g', h1, h2⟩ := h g0 w0 g a w hE hS; k n g0 w0 g' a w h1 h2
theorem AbT {p : Nat → Prop} : ∀ n, p n → ∃ m, p m ∧ ∀ k, p k → m ≤ k := by
 intro n
 induction n using Nat.strongRecOn with
 | _ n ih =>
  intro hn
  by_cases h : ∃ k, k < n ∧ p k
  ·obtain ⟨k, hk, hp⟩ := h
   exact ih k hk hp
  ·exact ⟨n, hn, fun k hk => Nat.le_of_not_lt fun hlt => h ⟨k, hlt, hk⟩⟩
def MW {α : Type} (cx : Cx) (I : α → St) (T : α → Prop) (μ : α → Nat) (x : α) (Q : VE → St → Prop) : VE → St → Prop
 | .normal, s => ∃ y, T y ∧ μ y < μ x ∧ Sb cx s (I y)
 | e, s => Q e s
theorem BT {α : Type} (I : α → St) (T : α → Prop) (μ : α → Nat) {c : Code} (x0 : α) (h0 : Sb cx s (I x0)) (hT : T x0) (step : ∀ x, T x → VW P cx c (I x) (MW cx I T μ x Q)) : VW P cx (.loop c) s Q := fun n g0 w0 g a w hE hS => by
 classical
 let ok : Nat → Act → World → Prop := fun j a w => ∃ x g, T x ∧ μ x = j ∧ D8 cx.sp cx.m g0 w0 g w ∧ C7 cx g a w (I x)
 have hleast : ∀ a w, (∃ j, ok j a w) → ∃ m, ok m a w ∧ ∀ k, ok k a w → m ≤ k := fun a w ⟨j, hj⟩ => AbT j hj
 let m : Act → World → Nat := fun a w => if h : ∃ j, ok j a w then Classical.choose (hleast a w h) else 0
 have hms : ∀ a w, (∃ j, ok j a w) → ok (m a w) a w ∧ ∀ k, ok k a w → m a w ≤ k := fun a w h => by
  have : m a w = Classical.choose (hleast a w h) := dif_pos h
  rw [this]; exact Classical.choose_spec (hleast a w h)
 refine wpIn_loop (fun a w => ∃ j, ok j a w) m ?_ ?_
 ·obtain ⟨g', h1, h2⟩ := h0 g0 w0 g a w hE hS
  exact ⟨_, x0, g', hT, rfl, h1, h2⟩
 ·intro a w h
  obtain ⟨⟨x, g1, hx, hj, hE1, hS1⟩, _⟩ := hms a w h
  refine wpIn_mono (step x hx n g0 w0 g1 a w hE1 hS1) ?_
  rintro e a' w' ⟨g', s', e', k1, k2, k3, k4⟩
  cases e' with
  | normal =>
   simp only [BJ] at k3; subst k3
   obtain ⟨y, hy, hlt, hs⟩ := k4
   obtain ⟨g2, q1, q2⟩ := hs g0 w0 g' a' w' k1 k2
   have h' : ∃ j, ok j a' w' := ⟨_, y, g2, hy, rfl, q1, q2⟩
   refine ⟨h', ?_⟩
   have := (hms a' w' h').2 _ ⟨y, g2, hy, rfl, q1, q2⟩
   omega
  | exit id => simp only [BJ] at k3; subst k3; exact ⟨g', s', .exit id, k1, k2, rfl, k4⟩
  | goto id => simp only [BJ] at k3; subst k3; exact ⟨g', s', .goto id, k1, k2, rfl, k4⟩
  | ret => simp only [BJ] at k3; subst k3; exact ⟨g', s', .ret, k1, k2, rfl, k4⟩
  | panic v => obtain ⟨u, rfl, k⟩ := k3; exact ⟨g', s', .panic v, k1, k2, ⟨u, rfl, k⟩, k4⟩
def V5 {α : Type} (cx : Cx) (I : α → St) (T : α → Prop) (Q : VE → St → Prop) : VE → St → Prop
 | .normal, s => ∃ y, T y ∧ Sb cx s (I y)
 | e, s => Q e s
theorem Ec {α : Type} (I : α → St) (T : α → Prop) {x y : Code} (h : VW P cx x s (V5 cx I T Q)) (k : ∀ z, T z → VW P cx y (I z) Q) : VW P cx (.seq x y) s Q := by
 refine AC (h.mono fun e s' hq => ?_)
 cases e with
 | normal => obtain ⟨z, h1, h2⟩ := hq; exact Y0 h2 (k z h1)
 | exit id => exact hq
 | goto id => exact hq
 | ret => exact hq
 | panic v => exact hq
theorem AU {α : Type} {I : α → St} {T : α → Prop} {μ : α → Nat} {x : α} (y : α) (h1 : T y) (h2 : μ y < μ x) (h3 : Sb cx s (I y)) : MW cx I T μ x Q .normal s := ⟨y, h1, h2, h3⟩
theorem DG {α : Type} {I : α → St} {T : α → Prop} (y : α) (h1 : T y) (h3 : Sb cx s (I y)) : V5 cx I T Q .normal s := ⟨y, h1, h3⟩
end

end Go.Proofs.YtbgcjnfhadhjeaaGreat