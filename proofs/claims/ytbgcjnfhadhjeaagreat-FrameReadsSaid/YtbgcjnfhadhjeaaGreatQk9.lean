/- Walks by data and names, part 9: Slices in walks: lengths, parts, elements; and other values' parts. Loops in walks: the state at the head, said again in each round; rows are named anew there, and what is no longer used is forgotten. -/
import Derived.Test.YtbgcjnfhadhjeaaGreatQk8
namespace Go.Proofs.YtbgcjnfhadhjeaaGreat
set_option maxRecDepth 20000
open Go.RowKit
def slV (st : List E) : V → Option (Bool × Bool × List (List D))
 | .d (.sl c f l) => some (c, f, l)
 | .row k ver => match Az k st with
  | some (o, nw, v, _, _, l) => (match o with
   | true => none
   | false => (match Nat.beq ver v with
    | true => some (false, nw, l)
    | false => none))
  | none => none
 | _ => none
def Aao (st : List E) : V → Option Nat
 | .d (.sl _ _ l) => some l.length
 | .d (.lit v) => match v with
  | .slice none 0 0 => some 0
  | _ => none
 | .row k ver => match Az k st with
  | some (_, _, v, _, _, l) => (match Nat.beq ver v with
   | true => some l.length
   | false => none)
  | none => none
 | _ => none
section
variable {B : Nat} {g : G} {w : World} {st : List E}
theorem Nm (h : AC B g w st) {v : V} {c f : Bool} {l : List (List D)} (hv : slV st v = some (c, f, l)) {u : Value} (hu : vrep B g w v u) : drep B g.prot w (.sl c f l) u := by
 unfold slV at hv
 split at hv
 ·cases hv; simp only [vrep] at hu; exact hu
 ·split at hv
  ·rename_i o nw v' e sz l' hr
   cases o with
   | true => simp at hv
   | false =>
    simp only at hv
    split at hv
    ·rename_i hb
     have := Nat.eq_of_beq_eq_true hb
     subst this
     cases hv
     simp only [vrep] at hu
     obtain ⟨v', xs, h1, h2, h3, _, h4⟩ := h.row hr
     rw [hu.1] at h1; cases h1
     rcases h4 with ⟨h4, _⟩ | ⟨_, h4, h5⟩
     ·cases h4
     ·exact h5
    ·cases hv
  ·cases hv
 ·cases hv
theorem Vo (h : AC B g w st) {v : V} {n : Nat} (hv : Aao st v = some n) {u : Value} (hu : vrep B g w v u) : ∃ a cap, u = .slice a n cap := by
 unfold Aao at hv
 split at hv
 ·cases hv
  simp only [vrep, drep] at hu
  obtain ⟨a, cap, cs, e, _⟩ := hu
  exact ⟨a, cap, e⟩
 ·split at hv
  ·cases hv; simp only [vrep, drep] at hu; exact ⟨none, 0, hu⟩
  ·cases hv
 ·split at hv
  ·rename_i o nw v' e sz l' hr
   split at hv
   ·rename_i hb
    have := Nat.eq_of_beq_eq_true hb
    subst this
    cases hv
    simp only [vrep] at hu
    obtain ⟨v', xs, h1, h2, h3, _, h4⟩ := h.row hr
    rw [hu.1] at h1; cases h1
    rcases h4 with ⟨_, h4, _⟩ | ⟨_, _, h4⟩
    ·rcases h4.2 with ⟨rfl, h5⟩ | ⟨gb, cap, cur, rfl, _⟩
     ·exact ⟨none, 0, by rw [h5]⟩
     ·exact ⟨_, cap, rfl⟩
    ·simp only [drep] at h4
     obtain ⟨a, cap, cs, e, _⟩ := h4
     exact ⟨a, cap, e⟩
   ·cases hv
  ·cases hv
 ·cases hv
end
section
variable {P : Program} {cx : Cx} {s : St} {Q : VE → St → Prop} {ops rest : List Oper}
theorem UJ {t ty e : TypeId} {x : Operand} {v : V} {n sz by_ : Nat} [hE : EQ P t e sz by_] (hx : Af s x = some v) (hn : Aao s.st v = some n) : Bq P cx (.call { callee := .builtin .len, args := #[x], argTypes := #[t] }) ty s (I .i64 (n : Int)) := fun g a w hS => by
 obtain ⟨ad, cap, h⟩ := Vo hS.st hn (hS.eval hx)
 refine ⟨.int .i64 n, ?_, by simp only [vrep, drep]⟩
 simp [execOp, resolve, invoke, builtin, Builtin.len_, h, run_underlying hE.elem.und w, goInt]
theorem UG {ty : TypeId} {x y : Operand} {tys : Array TypeId} {k : IntKind} {a b : Int} (hx : Af s x = some (I k a)) (hy : Af s y = some (I k b)) : Bq P cx (.call { callee := .builtin .min, args := #[x, y], argTypes := tys }) ty s (I k (min a b)) := fun g ac w hS => by
 have h1 := hS.eval hx
 have h2 := hS.eval hy
 simp only [vrep, drep] at h1 h2
 refine ⟨.int k (min a b), ?_, by simp only [vrep, drep]⟩
 have : (if b < a then b else a) = min a b := by simp only [Int.min_def]; split <;> split <;> omega
 simp [execOp, resolve, invoke, builtin, Builtin.min_, Builtin.min2, h1, h2, this]
theorem UH {ty : TypeId} {x y : Operand} {tys : Array TypeId} {k : IntKind} {a b : Int} (hx : Af s x = some (I k a)) (hy : Af s y = some (I k b)) : Bq P cx (.call { callee := .builtin .max, args := #[x, y], argTypes := tys }) ty s (I k (max a b)) := fun g ac w hS => by
 have h1 := hS.eval hx
 have h2 := hS.eval hy
 simp only [vrep, drep] at h1 h2
 refine ⟨.int k (max a b), ?_, by simp only [vrep, drep]⟩
 have : (if a < b then b else a) = max a b := by simp only [Int.max_def]; split <;> split <;> omega
 simp [execOp, resolve, invoke, builtin, Builtin.max_, Builtin.max2, h1, h2, this]
theorem UM {x : Operand} {ty : TypeId} {i : Nat} {l : List V} {v : V} (hx : Af s x = some (.tup l)) (hl : l[i]? = some v) : Bq P cx (.extract x i) ty s v := fun g a w hS => by
 have h1 := hS.eval hx
 simp only [vrep] at h1
 obtain ⟨cs, h1, h2⟩ := h1
 obtain ⟨u, k1, k2⟩ := CH h2 hl
 exact ⟨u, by simp [execOp, Instr.extract, h1, k1], k2⟩
theorem P6 {x : Operand} {ty : TypeId} {i : Nat} {l : List D} {v : D} (hx : Af s x = some (.d (.tup l))) (hl : l[i]? = some v) : Bq P cx (.extract x i) ty s (.d v) := fun g a w hS => by
 have h1 := hS.eval hx
 simp only [vrep, drep] at h1
 obtain ⟨cs, h1, h2⟩ := h1
 obtain ⟨u, k1, k2⟩ := BU h2 hl
 exact ⟨u, by simp [execOp, Instr.extract, h1, k1], by simp only [vrep]; exact k2⟩
theorem UF {ty : TypeId} {fn : Fn} {fi ca : Array Operand} {v1 v2 : List V} (h1 : AY s fi.toList = some v1) (h2 : AY s ca.toList = some v2) : Bq P cx (.makeFunc fn fi ca) ty s (.fn fn v1 v2) := fun g a w hS => by
 have k1 := hS.evals h1
 have k2 := hS.evals h2
 refine ⟨.func fn (fi.map a.eval) (ca.map a.eval), by simp [execOp, Instr.makeFunc], ?_⟩
 simp only [vrep]
 exact ⟨_, _, by rw [← Array.toList_map, ← Array.toList_map, Array.toArray_toList, Array.toArray_toList], k1, k2⟩
theorem UE {t ty : TypeId} {x : Operand} {v : V} [ht : Qu P t] (hx : Af s x = some v) : Bq P cx (.makeInterface t x) ty s (.ifc t v) := fun g a w hS => by
 obtain ⟨d, h1, h2⟩ := Option.map_eq_some_iff.1 ht.und
 refine ⟨.iface t (a.eval x), ?_, by simp only [vrep]; exact ⟨_, rfl, hS.eval hx⟩⟩
 have : (Instr.makeInterface t (a.eval x)).run P w = .ok (.iface t (a.eval x)) w := by
  unfold Instr.makeInterface
  rw [Sem.run_bind, run_underlying h1 w]
  cases d <;> simp_all [Vy]
 simp [execOp, this]
theorem Xv {x : Operand} {ty t : TypeId} {v : V} (hx : Af s x = some (.ifc t v)) : OpP P cx (.panic x) ty s (.ifc t v) := fun g a w hS => by
 have h1 := hS.eval hx
 have h0 := h1
 simp only [vrep] at h1
 obtain ⟨y, h1, h2⟩ := h1
 exact ⟨a.eval x, by simp [execOp, Instr.panic, h1, goPanic, Sem.run], h0⟩
theorem UV {x : Operand} {ty t : TypeId} {v : D} (hx : Af s x = some (.d (.ifc t v))) : OpP P cx (.panic x) ty s (.d (.ifc t v)) := fun g a w hS => by
 have h1 := hS.eval hx
 have h0 := h1
 simp only [vrep, drep] at h1
 obtain ⟨y, h1, h2⟩ := h1
 exact ⟨a.eval x, by simp [execOp, Instr.panic, h1, goPanic, Sem.run], h0⟩
theorem UL {t ty e : TypeId} {x y : Operand} {k : IntKind} {i : Int} {v : V} {c f : Bool} {l : List (List D)} {sz by_ : Nat} {cs : List D} [hE : EQ P t e sz by_] (hx : Af s x = some v) (hv : slV s.st v = some (c, f, l)) (hy : Af s y = some (I k i)) (h0 : 0 ≤ i) (hl : l[i.toNat]? = some cs) (hc : cs.length = sz) :
  Bq P cx (.indexAddr t x y) ty s (.ep cs) := fun g a w hS => by
 have h1 := Nm hS.st hv (hS.eval hx)
 have h2 := hS.eval hy
 simp only [vrep, drep] at h1 h2
 obtain ⟨ad, cap, us, h1, e2, e3, e4, e5, ⟨sz', e6⟩, e0, e7, e8⟩ := h1
 have hlt := (List.getElem?_eq_some_iff.1 hl).1
 obtain rfl : sz' = sz := by rw [← hc]; exact (e6 cs (List.mem_of_getElem? hl)).symm
 have hpos := hE.elem.pos
 have hd := GN e6 e8 hl
 have hulen := Dc e6 e8
 have hd' : ∃ u, us[i.toNat * sz']? = some u := by
  have : i.toNat * sz' < us.length := by rw [hulen]; exact (Nat.mul_lt_mul_right hpos).2 hlt
  exact ⟨us[i.toNat * sz'], List.getElem?_eq_getElem this⟩
 obtain ⟨u0, hu0⟩ := hd'
 obtain ⟨b, o, rfl, _, _⟩ := e7 _ u0 hu0
 have hadd : (⟨b, o, none⟩ : Addr).add (i.toNat * sz') = ⟨b, o + i.toNat * sz', none⟩ := by unfold Addr.add; split <;> simp_all
 refine ⟨.pointer (some ⟨b, o + i.toNat * sz', none⟩), ?_, ?_⟩
 ·have hi : (i < (l.length : Int)) := by omega
  simp [execOp, h1, h2, Instr.indexAt, asIntOf, run_underlying hE.elem.und w, Cv hE.elem, h0, hi, hadd]
 ·simp only [vrep]
  refine ⟨b, o + i.toNat * sz', _, rfl, fun j u hj => ?_, hd⟩
  rw [List.getElem?_take] at hj
  split at hj
  ·rw [List.getElem?_drop] at hj
   obtain ⟨b', o', e, hp, hcell⟩ := e7 _ u hj
   cases e
   exact ⟨b, _, rfl, hp.1, by rw [Nat.add_assoc]; exact hcell⟩
  ·cases hj
theorem P2 {t ty e : TypeId} {x y : Operand} {k0 : IntKind} {i : Int} {k off n sz : Nat} [hA : EP P t n e sz] (hx : Af s x = some (.ptr k off)) (hy : Af s y = some (I k0 i)) (h0 : 0 ≤ i) (h1 : i < (n : Int)) : Bq P cx (.indexAddr t x y) ty s (.ptr k (off + i.toNat * sz)) := fun g a w hS => by
 have hx' := hS.eval hx
 have hy' := hS.eval hy
 simp only [vrep, drep] at hx' hy'
 obtain ⟨b, hb, hx'⟩ := hx'
 obtain ⟨hu, ie, hie, hsz⟩ := hA.get
 have hadd : (⟨b, off, none⟩ : Addr).add (i.toNat * sz) = ⟨b, off + i.toNat * sz, none⟩ := by unfold Addr.add; split <;> simp_all
 refine ⟨.pointer (some ⟨b, off + i.toNat * sz, none⟩), ?_, by simp only [vrep]; exact ⟨b, hb, rfl⟩⟩
 have hs : (sizeOf e).run P w = .ok sz w := by simp [sizeOf, typeInfo, hie, hsz]
 simp [execOp, hx', hy', Instr.indexAt, asIntOf, run_underlying hu w, hs, h0, h1, hadd, Instr.sureAddr]
theorem P1 {t ty e e' : TypeId} {x y : Operand} {k0 : IntKind} {i : Int} {k ver sz by_ : Nat} {nw : Bool} {l : List (List D)} [hE : EQ P t e sz by_] (hx : Af s x = some (.row k ver)) (hy : Af s y = some (I k0 i)) (hr : Az k s.st = some (true, nw, ver, e', sz, l)) (h0 : 0 ≤ i) (h1 : i < (l.length : Int)) :
  Bq P cx (.indexAddr t x y) ty s (.rp k ver sz i.toNat 0) := fun g a w hS => by
 have hx' := hS.eval hx
 have hy' := hS.eval hy
 simp only [vrep, drep] at hx' hy'
 obtain ⟨v, xs, r1, r2, r3, r4, r5⟩ := hS.st.row hr
 rw [hx'.1] at r1; cases r1
 rcases r5 with ⟨_, r5, _⟩ | ⟨h, _⟩
 ·rcases r5.2 with ⟨_, h5⟩ | ⟨b, cap, cur, h5, _⟩
  ·omega
  ·have hadd : (⟨b, 0, none⟩ : Addr).add (i.toNat * sz) = ⟨b, i.toNat * sz, none⟩ := by unfold Addr.add; split <;> simp_all
   refine ⟨.pointer (some ⟨b, i.toNat * sz, none⟩), ?_, ?_⟩
   ·simp [execOp, h5, hy', Instr.indexAt, asIntOf, run_underlying hE.elem.und w, Cv hE.elem, h0, h1, hadd]
   ·simp only [vrep]
    exact ⟨b, l.length, cap, by rw [hx'.1, h5], rfl⟩
 ·cases h
theorem OF {B : Nat} {g : G} {w : World} {st : List E} (hs : AC B g w st) {k ver : Nat} {nw : Bool} {e : TypeId} {sz : Nat} {l : List (List D)} (hr : Az k st = some (true, nw, ver, e, sz, l)) {i j : Nat} {cs : List D} (hl : l[i]? = some cs) {b n c : Nat} (hv : g.rw k ver = some (.slice (some ⟨b, 0, none⟩) n c)) :
  ∃ cur us, w.heap[b]? = some (.cells cur e (0, 0)) ∧ dreps B g.prot w (cs.drop j) us ∧ (∀ (m : Nat) u, us[m]? = some u → cur[i * sz + j + m]? = some u) ∧ (i + 1) * sz ≤ cur.size ∧ cs.length = sz := by
 obtain ⟨v, xs, r1, r2, r3, r4, r5⟩ := hs.row hr
 rw [hv] at r1; cases r1
 rcases r5 with ⟨_, r5, _⟩ | ⟨h, _⟩
 ·rcases r5.2 with ⟨h5, _⟩ | ⟨b', cap, cur, h5, _, hh, hn, _, hsz, ht⟩
  ·cases h5
  ·cases h5
   have hd := GN r3.1 r2 hl
   have hlt := (List.getElem?_eq_some_iff.1 hl).1
   have hcs := r3.1 cs (List.mem_of_getElem? hl)
   have hlen := Bx hd
   refine ⟨cur, (((xs.drop (i * sz)).take sz).drop j), hh, ?_, fun m u hm => ?_, ?_, hcs⟩
   ·refine Ft (by simp at hlen ⊢; omega) fun m x y hx hy => ?_
    rw [List.getElem?_drop] at hx hy
    obtain ⟨y', e1, k1⟩ := BU hd hx
    rw [hy] at e1; cases e1; exact k1
   ·rw [List.getElem?_drop, List.getElem?_take] at hm
    split at hm
    ·rw [List.getElem?_drop] at hm
     rw [← ht, List.getElem?_take] at hm
     split at hm
     ·rw [Nat.add_assoc]; simpa using hm
     ·cases hm
    ·cases hm
   ·rw [hsz]; exact Nat.mul_le_mul_right _ (by omega)
 ·cases h
theorem Ny {t ty e : TypeId} {x : Operand} {k ver sz i j sz1 : Nat} {z : List Value} {nw : Bool} {l : List (List D)} {cs : List D} {d : D} [hT : BE P t false sz1 z] (hx : Af s x = some (.rp k ver sz i j)) (hr : Az k s.st = some (true, nw, ver, e, sz, l)) (hl : l[i]? = some cs) (hd : cs[j]? = some d) : Bq P cx (.load t x) ty s (.d d) := fun g a w hS => by
 have hx' := hS.eval hx
 simp only [vrep] at hx'
 obtain ⟨b, n, c, h1, h2⟩ := hx'
 obtain ⟨cur, us, k1, k2, k3, _⟩ := OF hS.st hr (j := j) hl h1
 obtain ⟨u, m1, m2⟩ := BU k2 (i := 0) (x := d) (by rw [List.getElem?_drop]; simpa using hd)
 refine ⟨u, ?_, by simp only [vrep]; exact m2⟩
 have := Ce (P := P) (hT := hT) (w := w) (a := ⟨b, i * sz + j, none⟩) (u := u) (by rw [cell_of_row w b _ cur e (0, 0) k1]; exact k3 0 u m1)
 simp [execOp, h2, Instr.loadAt, Instr.sureAddr, this]
theorem Lf {t ty e : TypeId} {x : Operand} {k ver sz i j sz1 : Nat} {z : List Value} {nw : Bool} {l : List (List D)} {cs : List D} [hT : BE P t true sz1 z] (hx : Af s x = some (.rp k ver sz i j)) (hr : Az k s.st = some (true, nw, ver, e, sz, l)) (hl : l[i]? = some cs) (hd : j + sz1 ≤ cs.length) : Bq P cx (.load t x) ty s (.agg (((cs.drop j).take sz1).map .d)) := fun g a w hS => by
 have hx' := hS.eval hx
 simp only [vrep] at hx'
 obtain ⟨b, n, c, h1, h2⟩ := hx'
 obtain ⟨cur, us, k1, k2, k3, _⟩ := OF hS.st hr (j := j) hl h1
 have hlen := Bx k2
 refine ⟨.agg (us.take sz1).toArray, ?_, ?_⟩
 ·have := Cs (P := P) (hT := hT) (w := w) (b := b) (o := i * sz + j) (us := us.take sz1) (by simp at hlen ⊢; omega) (fun m u hm => by
   rw [List.getElem?_take] at hm
   split at hm
   ·rw [cell_of_row w b _ cur e (0, 0) k1]; exact k3 m u hm
   ·cases hm)
  simp [execOp, h2, Instr.loadAt, Instr.sureAddr, this]
 ·simp only [vrep]
  refine ⟨_, rfl, HK ?_⟩
  refine Ft (by simp at hlen ⊢; omega) fun m x y hx hy => ?_
  rw [List.getElem?_take] at hx hy
  split at hx
  ·rename_i hlt
   rw [if_pos hlt] at hy
   obtain ⟨y', e1, q1⟩ := BU k2 hx
   rw [hy] at e1; cases e1; exact q1
  ·cases hx
end

theorem Eg {k n : Nat} (h : Nat.blt k n = true) : k < n := Nat.le_of_ble_eq_true h
section
variable {B : Nat} {g : G} {w : World}
theorem FK {k : Nat} {st : List E} : ∀ {n o : Nat} {vs : List V}, AM k o st n = some vs → ∀ {i : Nat} {v : V}, vs[i]? = some v → Aq k (o + i) st = some v
 | 0, o, vs, h, i, v, hv => by simp only [AM, Option.some.injEq] at h; subst h; simp at hv
 | n + 1, o, vs, h, i, v, hv => by
  simp only [AM] at h
  split at h
  ·cases h
  ·rename_i x hx
   split at h
   ·cases h
   ·rename_i xs hxs
    cases h
    cases i with
    | zero => simp at hv; subst hv; exact hx
    | succ i => simp at hv; have := FK hxs hv; rwa [show o + 1 + i = o + (i + 1) by omega] at this
end
def I2 (k : Nat) : List Nat → Bool
 | [] => false
 | x :: xs => match Nat.beq k x with
  | true => true
  | false => I2 k xs
theorem EI {k : Nat} : ∀ {l : List Nat}, I2 k l = true ↔ k ∈ l
 | [] => by simp [I2]
 | x :: xs => by
  simp only [I2, List.mem_cons]
  split
  ·rename_i h; simp [Nat.eq_of_beq_eq_true h]
  ·rename_i h
   rw [EI]
   constructor
   ·exact .inr
   ·rintro (rfl | h2)
    ·rw [Nat.beq_refl] at h; cases h
    ·exact h2
def RS (cx : Cx) (s s' : St) : Prop := ∀ g0 w0 g a w, Ei cx.sp cx.m g0 w0 g w → Dg cx g a w s → ∃ g', Ei cx.sp cx.m g0 w0 g' w ∧ Dg cx g' a w s'
abbrev Ren := List (Nat × Nat × Nat)
def Eb (k : Nat) : Ren → Option (Nat × Nat)
 | [] => none
 | (k', a, v) :: r => match Nat.beq k k' with
  | true => some (a, v)
  | false => Eb k r
def G.ren (g : G) (ρ : Ren) (n : Nat) : G :=
  ⟨g.ex, fun k => if k < n then g.bx k else none,
   fun k => if k < n then (match Eb k ρ with | some p => g.rb p.1 | none => if I2 k (ρ.map (·.2.1)) = true then none else g.rb k) else none,
   fun k ver => if k < n then (match Eb k ρ with | some p => if ver = 0 then g.rw p.1 p.2 else none | none => g.rw k ver) else none, g.pl, g.plex⟩
def GU (m : Nat) (ρ : Ren) : Bool := decide ((ρ.map (·.1)).Nodup) && decide ((ρ.map (·.2.1)).Nodup) && ρ.all fun p => decide (m ≤ p.1)
theorem HX {k : Nat} {p : Nat × Nat} : ∀ {ρ : Ren}, Eb k ρ = some p → ∃ i : Nat, ρ[i]? = some (k, p.1, p.2)
 | [], h => by simp [Eb] at h
 | (k', a, v) :: r, h => by
  simp only [Eb] at h
  split at h
  ·rename_i hb
   have := Nat.eq_of_beq_eq_true hb
   subst this
   cases h
   exact ⟨0, rfl⟩
  ·obtain ⟨i, hi⟩ := HX h
   exact ⟨i + 1, by simpa using hi⟩
theorem Ir {m : Nat} {ρ : Ren} (h : GU m ρ = true) : (∀ {k k' : Nat} {p q : Nat × Nat}, Eb k ρ = some p → Eb k' ρ = some q → p.1 = q.1 → k = k') ∧ (∀ {k : Nat} {p : Nat × Nat}, Eb k ρ = some p → m ≤ k ∧ I2 p.1 (ρ.map (·.2.1)) = true) := by
 simp only [GU, Bool.and_eq_true, decide_eq_true_eq, List.all_eq_true] at h
 refine ⟨fun {k k' p q} h1 h2 e => ?_, fun {k p} h1 => ?_⟩
 ·obtain ⟨i, hi⟩ := HX h1
  obtain ⟨j, hj⟩ := HX h2
  have e1 : (ρ.map (·.2.1))[i]? = some p.1 := by simp [hi]
  have e2 : (ρ.map (·.2.1))[j]? = some q.1 := by simp [hj]
  have : i = j := (List.getElem?_inj (List.getElem?_eq_some_iff.1 e1).1 h.1.2).1 (e1.trans (by rw [e2, e]))
  subst this
  rw [hi] at hj; simp only [Option.some.injEq, Prod.mk.injEq] at hj; exact hj.1
 ·obtain ⟨i, hi⟩ := HX h1
  have hm := List.mem_of_getElem? hi
  exact ⟨h.2 _ hm, EI.2 (List.mem_map.2 ⟨_, hm, rfl⟩)⟩
section
variable {B n nb m : Nat} {ρ : Ren} {g : G} {w : World} {st : List E}
theorem W4 {b : Nat} (h : (g.ren ρ n).own b) : g.own b := by
 rcases h with h | ⟨k, h⟩ | ⟨k, h⟩
 ·exact .inl h
 ·simp only [G.ren] at h
  split at h
  ·exact .inr (.inl ⟨k, h⟩)
  ·cases h
 ·simp only [G.ren] at h
  split at h
  ·split at h
   ·exact .inr (.inr ⟨_, h⟩)
   ·split at h
    ·cases h
    ·exact .inr (.inr ⟨k, h⟩)
  ·cases h
theorem C9 {b : Nat} (h : g.prot b) : (g.ren ρ n).prot b := fun ho => h (W4 ho)
theorem Np (h : CG B nb g w) (hρ : GU m ρ = true) : CG B n (g.ren ρ n) w := by
 obtain ⟨hi, hk⟩ := Ir hρ
 have bxd : ∀ {k b}, (g.ren ρ n).bx k = some b → k < n ∧ g.bx k = some b := fun {k b} hb => by
  simp only [G.ren] at hb
  split at hb
  ·rename_i hn; exact ⟨hn, hb⟩
  ·cases hb
 have rbd : ∀ {k b}, (g.ren ρ n).rb k = some b → k < n ∧ ((∃ p, Eb k ρ = some p ∧ g.rb p.1 = some b) ∨ (Eb k ρ = none ∧ I2 k (ρ.map (·.2.1)) = false ∧ g.rb k = some b)) := fun {k b} hb => by
  simp only [G.ren] at hb
  split at hb
  ·rename_i hn
   refine ⟨hn, ?_⟩
   split at hb
   ·rename_i p hp; exact .inl ⟨p, hp, hb⟩
   ·rename_i hp
    split at hb
    ·cases hb
    ·rename_i hm; exact .inr ⟨hp, by simpa using hm, hb⟩
  ·cases hb
 refine ⟨fun {k b} hb => ?_, fun {k b} hb => ?_, fun {k j v} hb => ?_, fun {i j b} h1 h2 => ?_, fun {i j b} h1 h2 => ?_, fun {i j b} h1 h2 => ?_, h.exlt, fun {i b} hb he => ?_, fun {i b} hb he => ?_, h.plB, h.base⟩
 ·obtain ⟨h1, h2⟩ := bxd hb; exact ⟨(h.bxlt h2).1, h1⟩
 ·obtain ⟨h1, ⟨p, _, h2⟩ | ⟨_, _, h2⟩⟩ := rbd hb
  ·exact ⟨(h.rblt h2).1, h1⟩
  ·exact ⟨(h.rblt h2).1, h1⟩
 ·simp only [G.ren] at hb
  split at hb
  ·assumption
  ·cases hb
 ·exact h.bxinj (bxd h1).2 (bxd h2).2
 ·obtain ⟨_, ⟨p, a1, a2⟩ | ⟨a1, a2, a3⟩⟩ := rbd h1 <;> obtain ⟨_, ⟨q, c1, c2⟩ | ⟨c1, c2, c3⟩⟩ := rbd h2
  ·exact hi a1 c1 (h.rbinj a2 c2)
  ·have := h.rbinj a2 c3; have h3 := (hk a1).2; rw [this, c2] at h3; cases h3
  ·have := h.rbinj c2 a3; have h3 := (hk c1).2; rw [this, a2] at h3; cases h3
  ·exact h.rbinj a3 c3
 ·obtain ⟨_, ⟨q, c1, c2⟩ | ⟨c1, c2, c3⟩⟩ := rbd h2
  ·exact h.apart (bxd h1).2 c2
  ·exact h.apart (bxd h1).2 c3
 ·exact h.exbx (bxd hb).2 he
 ·obtain ⟨_, ⟨q, c1, c2⟩ | ⟨c1, c2, c3⟩⟩ := rbd hb
  ·exact h.exrb c2 he
  ·exact h.exrb c3 he
def KF (n : Nat) (ρ : Ren) (st : List E) (vl vc : V) : Prop := ∀ B g w u, AC B g w st → vrep B g w vc u → vrep B (g.ren ρ n) w vl u
def N4 (n : Nat) (ρ : Ren) (st : List E) (vl vc : List V) : Prop := ∀ B g w u, AC B g w st → vreps B g w vc u → vreps B (g.ren ρ n) w vl u
theorem DD : N4 n ρ st [] [] := fun _ _ _ _ _ h => by simpa only [vreps] using h
theorem CX {x y : V} {xs ys : List V} (h : KF n ρ st x y) (hs : N4 n ρ st xs ys) : N4 n ρ st (x :: xs) (y :: ys) := fun B g w u k h2 => by
 simp only [vreps] at h2 ⊢
 obtain ⟨z, zs, e, k1, k2⟩ := h2
 exact ⟨z, zs, e, h _ _ _ _ k k1, hs _ _ _ _ k k2⟩
theorem GT {x y : D} {v : V} (h : Fz st v = some y) (hd : DL y x) : KF n ρ st (.d x) v := fun B g w u k hu => by
 have := EO k h hu
 simp only [vrep]
 exact A4 (Nat.le_refl _) (fun b _ hb => ⟨C9 hb, rfl⟩) (hd.le _ _ _ _ _ this)
theorem DG {v : V} : KF n ρ st (.d .any) v := fun B g w u _ _ => by simp only [vrep, drep]
theorem EW {x : D} : KF n ρ st (.d x) (.d x) := fun B g w u _ hu => by
 simp only [vrep] at hu ⊢
 exact A4 (Nat.le_refl _) (fun b _ hb => ⟨C9 hb, rfl⟩) hu
theorem ET {e : Bool} {x : D} : KF n ρ st (.po e x) (.po e x) := fun B g w u _ hu => by
 simp only [vrep] at hu ⊢; exact hu
theorem DC {e : Bool} {x : D} : KF n ρ st (.po false x) (.po e x) := fun B g w u _ hu => by
 simp only [vrep] at hu ⊢; obtain ⟨y, h, k⟩ := hu; exact ⟨y, M6 h, k⟩
theorem EV {x : List D} : KF n ρ st (.ep x) (.ep x) := fun B g w u _ hu => by
 simp only [vrep] at hu ⊢
 obtain ⟨b, o, cs, e, k1, k2⟩ := hu
 exact ⟨b, o, cs, e, k1.imp fun b hb => C9 hb, Ew (Nat.le_refl _) (fun b _ hb => ⟨C9 hb, rfl⟩) k2⟩
theorem DB {i off : Nat} (hi : Nat.blt i n = true) : KF n ρ st (.ptr i off) (.ptr i off) := fun B g w u _ hu => by
 simp only [vrep] at hu ⊢
 obtain ⟨b, hb, e⟩ := hu
 exact ⟨b, by simp only [G.ren]; rw [if_pos (Eg hi)]; exact hb, e⟩
theorem ES {i off l c sz : Nat} (hi : Nat.blt i n = true) : KF n ρ st (.sv i off l c sz) (.sv i off l c sz) := fun B g w u _ hu => by
 simp only [vrep] at hu ⊢
 obtain ⟨b, hb, e⟩ := hu
 exact ⟨b, by simp only [G.ren]; rw [if_pos (Eg hi)]; exact hb, e⟩
theorem ER {i : Nat} (hi : Nat.blt i n = true) : KF n ρ st (.yl i) (.yl i) := fun B g w u _ hu => by
 simp only [vrep] at hu ⊢
 obtain ⟨b, hb, e⟩ := hu
 exact ⟨b, by simp only [G.ren]; rw [if_pos (Eg hi)]; exact hb, e⟩
theorem DA {i k v : Nat} (hi : Nat.blt i n = true) (h : Eb i ρ = some (k, v)) : KF n ρ st (.row i 0) (.row k v) := fun B g w u _ hu => by
 simp only [vrep] at hu ⊢
 exact ⟨by simp only [G.ren, h]; rw [if_pos (Eg hi)]; simp only [if_true]; exact hu.1, hu.2⟩
theorem CW {i v : Nat} (hi : Nat.blt i n = true) (h : Eb i ρ = none) : KF n ρ st (.row i v) (.row i v) := fun B g w u _ hu => by
 simp only [vrep] at hu ⊢
 exact ⟨by simp only [G.ren, h]; rw [if_pos (Eg hi)]; exact hu.1, hu.2⟩
theorem DH {xs ys : List V} (h : N4 n ρ st xs ys) : KF n ρ st (.agg xs) (.agg ys) := fun B g w u k hu => by
 simp only [vrep] at hu ⊢
 obtain ⟨cs, e, hu⟩ := hu
 exact ⟨cs, e, h _ _ _ _ k hu⟩
theorem Dz {xs ys : List V} (h : N4 n ρ st xs ys) : KF n ρ st (.tup xs) (.tup ys) := fun B g w u k hu => by
 simp only [vrep] at hu ⊢
 obtain ⟨cs, e, hu⟩ := hu
 exact ⟨cs, e, h _ _ _ _ k hu⟩
theorem DF {t : TypeId} {x y : V} (h : KF n ρ st x y) : KF n ρ st (.ifc t x) (.ifc t y) := fun B g w u k hu => by
 simp only [vrep] at hu ⊢
 obtain ⟨cs, e, hu⟩ := hu
 exact ⟨cs, e, h _ _ _ _ k hu⟩
theorem EU {f : Fn} {xs ys xs' ys' : List V} (h : N4 n ρ st xs ys) (h' : N4 n ρ st xs' ys') : KF n ρ st (.fn f xs xs') (.fn f ys ys') := fun B g w u k hu => by
 simp only [vrep] at hu ⊢
 obtain ⟨a, b, e, k1, k2⟩ := hu
 exact ⟨a, b, e, h _ _ _ _ k k1, h' _ _ _ _ k k2⟩
def TmR (n : Nat) (ρ : Ren) (st : List E) (tm : List (Nat × V)) : List (Nat × V) → Prop
 | [] => True
 | (t, v') :: r => (∃ v, AA t tm = some v ∧ KF n ρ st v' v) ∧ TmR n ρ st tm r
theorem KP {tm : List (Nat × V)} (hs : AC B g w st) : ∀ {r : List (Nat × V)}, TmR n ρ st tm r → ∀ {t v'}, AA t r = some v' → ∃ v, AA t tm = some v ∧ ∀ u, vrep B g w v u → vrep B (g.ren ρ n) w v' u
 | [], _, t, v, h => by simp [AA] at h
 | (t', v') :: r, hs', t, v, h => by
  simp only [AA] at h
  split at h
  ·rename_i hb
   have := Nat.eq_of_beq_eq_true hb
   subst this
   cases h
   obtain ⟨⟨v0, h1, h2⟩, _⟩ := hs'
   exact ⟨v0, h1, fun u => h2 B g w u hs⟩
  ·exact KP hs hs'.2 h
def Jo (n : Nat) (ρ : Ren) (st : List E) : List E → Prop
 | [] => True
 | .c k off vs :: r => (Nat.blt k n = true ∧ ∃ vs', AM k off st vs.length = some vs' ∧ N4 n ρ st vs vs') ∧ Jo n ρ st r
 | .r o nw k ver e sz l :: r => (Nat.blt k n = true ∧ ((ver = 0 ∧ ∃ a v, Eb k ρ = some (a, v) ∧ Az a st = some (o, nw, v, e, sz, l)) ∨ (Eb k ρ = none ∧ I2 k (ρ.map (·.2.1)) = false ∧ Az k st = some (o, nw, ver, e, sz, l)))) ∧ Jo n ρ st r
 | .y k lp T tm :: r => (Nat.blt k n = true ∧ ∃ tm', Au k st = some (lp, T, tm') ∧ TmR n ρ st tm' tm) ∧ Jo n ρ st r
theorem DW (hs : AC B g w st) : ∀ {AO : List E}, Jo n ρ st AO → ∀ {i off : Nat} {v : V}, Aq i off AO = some v → ∃ b rcs ty u, (g.ren ρ n).bx i = some b ∧ w.heap[b]? = some (.cells rcs ty (0, 0)) ∧ rcs[off]? = some u ∧ vrep B (g.ren ρ n) w v u
 | [], _, i, off, v, h => by simp [Aq] at h
 | .c i' o' vs :: r, he, i, off, v, h => by
  simp only [Aq] at h
  split at h
  ·rename_i hi
   have := Nat.eq_of_beq_eq_true hi
   subst this
   split at h
   ·rename_i ho
    have ho := Nat.le_of_ble_eq_true ho
    split at h
    ·rename_i v' hv
     cases h
     obtain ⟨⟨hm, vs', hc, hle⟩, _⟩ := he
     have hlen := (List.getElem?_eq_some_iff.1 hv).1
     have hlen2 := EM hc
     obtain ⟨y, hy⟩ : ∃ y, vs'[off - o']? = some y := ⟨_, List.getElem?_eq_getElem (by omega)⟩
     have h1 := FK hc hy
     rw [show o' + (off - o') = off by omega] at h1
     obtain ⟨b, rcs, ty, u, m1, m2, m3, m4⟩ := hs.cell h1
     obtain ⟨us, q1, q2⟩ := FJ hs m1 hc
     obtain ⟨z, hz, hz2⟩ := CH q1 hy
     have hzu : z = u := by
      obtain ⟨b', o2, e, _, e3⟩ := q2 _ _ hz
      cases e
      have : w.cell? ⟨b, o' + (off - o'), none⟩ = some u := by
       rw [show o' + (off - o') = off by omega, cell_of_row w b off rcs ty (0, 0) m2]; exact m3
      rw [this] at e3; cases e3; rfl
     subst hzu
     obtain ⟨z', hz', hz2'⟩ := CH (hle _ _ _ _ hs q1) hv
     rw [hz] at hz'; cases hz'
     exact ⟨b, rcs, ty, z, by simp only [G.ren]; rw [if_pos (Eg hm)]; exact m1, m2, m3, hz2'⟩
    ·exact DW hs he.2 h
   ·exact DW hs he.2 h
  ·exact DW hs he.2 h
 | .r .. :: r, he, i, off, v, h => by
  simp only [Aq] at h
  exact DW hs he.2 h
 | .y .. :: r, he, i, off, v, h => by
  simp only [Aq] at h
  exact DW hs he.2 h
theorem Fh (hs : AC B g w st) : ∀ {AO : List E}, Jo n ρ st AO → ∀ {i : Nat} {lp : Option Loop} {T : Array Value} {tm : List (Nat × V)}, Au i AO = some (lp, T, tm) → (∀ r, lp = some r → ∃ b, (g.ren ρ n).bx i = some b ∧ w.heap[b]? = some (.loop r)) ∧ ∀ {t v}, AA t tm = some v → vrep B (g.ren ρ n) w v (T.getD t undef)
 | [], _, i, lp, T, tm, h => by simp [Au] at h
 | .c .. :: r, he, i, lp, T, tm, h => by simp only [Au] at h; exact Fh hs he.2 h
 | .r .. :: r, he, i, lp, T, tm, h => by simp only [Au] at h; exact Fh hs he.2 h
 | .y .. :: r, he, i, lp, T, tm, h => by
  simp only [Au] at h
  split at h
  ·rename_i hb
   have := Nat.eq_of_beq_eq_true hb
   subst this
   cases h
   obtain ⟨⟨hn, tm', hl, htm⟩, _⟩ := he
   obtain ⟨h1, h2⟩ := hs.loop hl
   refine ⟨fun r e => ?_, fun ht => ?_⟩
   ·obtain ⟨b, m1, m2⟩ := h1 r e
    exact ⟨b, by simp only [G.ren]; rw [if_pos (Eg hn)]; exact m1, m2⟩
   ·obtain ⟨v0, e1, e2⟩ := KP hs htm ht
    exact e2 _ (h2 e1)
  ·exact Fh hs he.2 h
theorem Gg (hs : AC B g w st) : ∀ {AO : List E}, Jo n ρ st AO → ∀ {k : Nat} {o nw ver e sz l}, Az k AO = some (o, nw, ver, e, sz, l) → ∃ v xs, (g.ren ρ n).rw k ver = some v ∧ drepss B (g.ren ρ n).prot w l xs ∧ ((∀ x ∈ l, x.length = sz) ∧ (∀ u ∈ xs, u.oneCell' = true) ∧ ∀ i v', (g.ren ρ n).rw k i = some v' → i ≤ ver) ∧ (nw = true → ∀ b, v.ownBlock = some b → B ≤ b) ∧
  ((o = true ∧ w.ownsRow 0 e sz v l.length xs ∧ (g.ren ρ n).rb k = v.ownBlock) ∨ (o = false ∧ (g.ren ρ n).rb k = none ∧ drep B (g.ren ρ n).prot w (.sl false nw l) v))
 | [], _, k, o, nw, ver, e, sz, l, h => by simp [Az] at h
 | .c .. :: r, he, k, o, nw, ver, e, sz, l, h => by
  simp only [Az] at h
  exact Gg hs he.2 h
 | .y .. :: r, he, k, o, nw, ver, e, sz, l, h => by
  simp only [Az] at h
  exact Gg hs he.2 h
 | .r .. :: r, he, k, o, nw, ver, e, sz, l, h => by
  simp only [Az] at h
  split at h
  ·rename_i hb
   have := Nat.eq_of_beq_eq_true hb
   subst this
   cases h
   obtain ⟨⟨hn, hk⟩, _⟩ := he
   have hn := Eg hn
   have hp : ∀ {x u}, drep B g.prot w x u → drep B (g.ren ρ n).prot w x u := fun hu => A4 (Nat.le_refl _) (fun b _ hb => ⟨C9 hb, rfl⟩) hu
   rcases hk with ⟨rfl, a, v, h1, h2⟩ | ⟨h1, hm, h2⟩
   ·obtain ⟨x, xs, r1, r2, r3, r4, r5⟩ := hs.row h2
    refine ⟨x, xs, by simp only [G.ren, if_pos hn, h1, if_true]; exact r1, AL (Nat.le_refl _) (fun b _ hb => ⟨C9 hb, rfl⟩) r2, ⟨r3.1, r3.2.1, fun i v' hv => ?_⟩, r4, ?_⟩
    ·simp only [G.ren, if_pos hn, h1] at hv
     split at hv
     ·omega
     ·cases hv
    ·rcases r5 with ⟨e1, e2, e3⟩ | ⟨e1, e2, e3⟩
     ·exact .inl ⟨e1, e2, by simp only [G.ren, if_pos hn, h1]; exact e3⟩
     ·exact .inr ⟨e1, by simp only [G.ren, if_pos hn, h1]; exact e2, hp e3⟩
   ·obtain ⟨x, xs, r1, r2, r3, r4, r5⟩ := hs.row h2
    refine ⟨x, xs, by simp only [G.ren, if_pos hn, h1]; exact r1, AL (Nat.le_refl _) (fun b _ hb => ⟨C9 hb, rfl⟩) r2, ⟨r3.1, r3.2.1, fun i v' hv => ?_⟩, r4, ?_⟩
    ·simp only [G.ren, if_pos hn, h1] at hv
     exact r3.2.2 i v' hv
    ·rcases r5 with ⟨e1, e2, e3⟩ | ⟨e1, e2, e3⟩
     ·exact .inl ⟨e1, e2, by simp only [G.ren, if_pos hn, h1, hm]; exact e3⟩
     ·exact .inr ⟨e1, by simp only [G.ren, if_pos hn, h1, hm]; exact e2, hp e3⟩
  ·exact Gg hs he.2 h
def DfR (n : Nat) (ρ : Ren) (st : List E) : List (FuncId × List V) → Prop
 | [] => True
 | (_, vs) :: r => N4 n ρ st vs vs ∧ DfR n ρ st r
theorem YX (hs : AC B g w st) : ∀ {df : List (FuncId × List V)}, DfR n ρ st df → ∀ {ds : List Deferred}, Mr B g w df ds → Mr B (g.ren ρ n) w df ds
 | [], _, _, h => h
 | (_, _) :: _, hd, _, ⟨us, r, e, h1, h2⟩ => ⟨us, r, e, hd.1 _ _ _ _ hs h1, YX hs hd.2 h2⟩
theorem QS {cx : Cx} {tm tm' : List (Nat × V)} {st' : List E} {nb' : Nat} (ρ : Ren) (h1 : TmR nb' ρ st tm tm') (h2 : Jo nb' ρ st st') (hd : DfR nb' ρ st cx.df) (hρ : GU cx.m ρ = true) (h3 : Nat.ble cx.m nb' = true) : RS cx ⟨tm, st, nb⟩ ⟨tm', st', nb'⟩ := fun g0 w0 g a w hE hS => by
 have hm := Nat.le_of_ble_eq_true h3
 obtain ⟨hi, hk⟩ := Ir hρ
 have hno : ∀ {k}, k < cx.m → Eb k ρ = none := fun {k} hlt => by
  cases hq : Eb k ρ with
  | none => rfl
  | some p => have := (hk hq).1; omega
 refine ⟨g.ren ρ nb', ⟨hE.os, hE.tape, hE.output, hE.size, fun hk e => ?_, fun hk e => ?_, fun b hb hp => ⟨C9 (hE.blk b hb hp).1, (hE.blk b hb hp).2⟩, hE.ex, hE.exblk, hE.pl, hE.blur⟩,
  ⟨hS.size, fun hx => ?_, ⟨fun hc => DW hS.st h2 hc, fun hr => Gg hS.st h2 hr, fun hl => Fh hS.st h2 hl⟩, Np hS.inv hρ, ?_⟩⟩
 ·simp only [G.ren]; rw [if_pos (by omega)]; exact hE.bx hk e
 ·simp only [G.ren]; rw [if_pos (by omega), hno hk]; exact hE.rw hk e
 ·obtain ⟨v, e1, e2⟩ := KP hS.st h1 hx
  exact e2 _ (hS.tm e1)
 ·obtain ⟨hm0, bs, r, e, hn, hb, hr⟩ := hS.defers
  exact ⟨hm0, bs, r, e, hn, fun b hb' => ⟨C9 (hb b hb').1, (hb b hb').2⟩, YX hS.st hd hr⟩
end
section
variable {P : Program} {cx : Cx} {s : St} {Q : VE → St → Prop}
theorem SS {c : Code} {s' : St} (h : RS cx s s') (k : VW P cx c s' Q) : VW P cx c s Q := fun n g0 w0 g a w hE hS =>
 let ⟨g', h1, h2⟩ := h g0 w0 g a w hE hS; k n g0 w0 g' a w h1 h2
theorem Zi {ops rest : List Oper} {s' : St} (h : RS cx s s') (k : VL P cx ops rest s' Q) : VL P cx ops rest s Q := fun n g0 w0 g a w hE hS =>
 let ⟨g', h1, h2⟩ := h g0 w0 g a w hE hS; k n g0 w0 g' a w h1 h2
theorem Ab4 {p : Nat → Prop} : ∀ n, p n → ∃ m, p m ∧ ∀ k, p k → m ≤ k := by
 intro n
 induction n using Nat.strongRecOn with
 | _ n ih =>
  intro hn
  by_cases h : ∃ k, k < n ∧ p k
  ·obtain ⟨k, hk, hp⟩ := h
   exact ih k hk hp
  ·exact ⟨n, hn, fun k hk => Nat.le_of_not_lt fun hlt => h ⟨k, hlt, hk⟩⟩
def MM {α : Type} (cx : Cx) (I : α → St) (T : α → Prop) (μ : α → Nat) (x : α) (Q : VE → St → Prop) : VE → St → Prop
 | .normal, s => ∃ y, T y ∧ μ y < μ x ∧ RS cx s (I y)
 | e, s => Q e s
theorem BP {α : Type} (I : α → St) (T : α → Prop) (μ : α → Nat) {c : Code} (x0 : α) (h0 : RS cx s (I x0)) (hT : T x0) (step : ∀ x, T x → VW P cx c (I x) (MM cx I T μ x Q)) : VW P cx (.loop c) s Q := fun n g0 w0 g a w hE hS => by
 classical
 let ok : Nat → Act → World → Prop := fun j a w => ∃ x g, T x ∧ μ x = j ∧ Ei cx.sp cx.m g0 w0 g w ∧ Dg cx g a w (I x)
 have hleast : ∀ a w, (∃ j, ok j a w) → ∃ m, ok m a w ∧ ∀ k, ok k a w → m ≤ k := fun a w ⟨j, hj⟩ => Ab4 j hj
 let m : Act → World → Nat := fun a w => if h : ∃ j, ok j a w then Classical.choose (hleast a w h) else 0
 have hms : ∀ a w, (∃ j, ok j a w) → ok (m a w) a w ∧ ∀ k, ok k a w → m a w ≤ k := fun a w h => by
  have : m a w = Classical.choose (hleast a w h) := dif_pos h
  rw [this]; exact Classical.choose_spec (hleast a w h)
 refine wpIn_loop (fun a w => ∃ j, ok j a w) m ?_ ?_
 ·obtain ⟨g', h1, h2⟩ := h0 g0 w0 g a w hE hS
  exact ⟨_, x0, g', hT, rfl, h1, h2⟩
 ·intro a w h
  obtain ⟨⟨x, g1, hx, hj, hE1, hS1⟩, _⟩ := hms a w h
  refine wpIn_mono (step x hx n g0 w0 g1 a w hE1 hS1) ?_
  rintro e a' w' ⟨g', s', e', k1, k2, k3, k4⟩
  cases e' with
  | normal =>
   simp only [BV] at k3; subst k3
   obtain ⟨y, hy, hlt, hs⟩ := k4
   obtain ⟨g2, q1, q2⟩ := hs g0 w0 g' a' w' k1 k2
   have h' : ∃ j, ok j a' w' := ⟨_, y, g2, hy, rfl, q1, q2⟩
   refine ⟨h', ?_⟩
   have := (hms a' w' h').2 _ ⟨y, g2, hy, rfl, q1, q2⟩
   omega
  | exit id => simp only [BV] at k3; subst k3; exact ⟨g', s', .exit id, k1, k2, rfl, k4⟩
  | goto id => simp only [BV] at k3; subst k3; exact ⟨g', s', .goto id, k1, k2, rfl, k4⟩
  | ret => simp only [BV] at k3; subst k3; exact ⟨g', s', .ret, k1, k2, rfl, k4⟩
  | panic v => obtain ⟨u, rfl, k⟩ := k3; exact ⟨g', s', .panic v, k1, k2, ⟨u, rfl, k⟩, k4⟩
def Qq {α : Type} (cx : Cx) (I : α → St) (T : α → Prop) (Q : VE → St → Prop) : VE → St → Prop
 | .normal, s => ∃ y, T y ∧ RS cx s (I y)
 | e, s => Q e s
theorem Io {α : Type} (I : α → St) (T : α → Prop) {x y : Code} (h : VW P cx x s (Qq cx I T Q)) (k : ∀ z, T z → VW P cx y (I z) Q) : VW P cx (.seq x y) s Q := by
 refine AS (h.mono fun e s' hq => ?_)
 cases e with
 | normal => obtain ⟨z, h1, h2⟩ := hq; exact SS h2 (k z h1)
 | exit id => exact hq
 | goto id => exact hq
 | ret => exact hq
 | panic v => exact hq
theorem AP {α : Type} {I : α → St} {T : α → Prop} {μ : α → Nat} {x : α} (y : α) (h1 : T y) (h2 : μ y < μ x) (h3 : RS cx s (I y)) : MM cx I T μ x Q .normal s := ⟨y, h1, h2, h3⟩
theorem Fm {α : Type} {I : α → St} {T : α → Prop} (y : α) (h1 : T y) (h3 : RS cx s (I y)) : Qq cx I T Q .normal s := ⟨y, h1, h3⟩
end

end Go.Proofs.YtbgcjnfhadhjeaaGreat