/- Walks by data and names, part 10: Slices in walks: lengths, parts, elements; and other values' parts. -/
import Derived.Test.YtbgcjnfhadhjeaaGreatPk9
namespace Go.Proofs.YtbgcjnfhadhjeaaGreat
set_option maxRecDepth 20000
open Go.RowKit
def slV (st : List E) : V → Option (Bool × Bool × List (List D))
 | .d (.sl c f l) => some (c, f, l)
 | .row k ver => match AB k st with
  | some (o, nw, v, _, _, l) => (match o with
   | true => none
   | false => (match Nat.beq ver v with
    | true => some (false, nw, l)
    | false => none))
  | none => none
 | _ => none
def Z4 (st : List E) : V → Option Nat
 | .d (.sl _ _ l) => some l.length
 | .d (.lit v) => match v with
  | .slice none 0 0 => some 0
  | _ => none
 | .row k ver => match AB k st with
  | some (_, _, v, _, _, l) => (match Nat.beq ver v with
   | true => some l.length
   | false => none)
  | none => none
 | _ => none
section
variable {B : Nat} {g : G} {w : World} {st : List E}
theorem Ns (h : AG B g w st) {v : V} {c f : Bool} {l : List (List D)} (hv : slV st v = some (c, f, l)) {u : Value} (hu : vrep B g w v u) : drep B g.prot w (.sl c f l) u := by
 unfold slV at hv
 split at hv
 ·cases hv; simp only [vrep] at hu; exact hu
 ·split at hv
  ·rename_i o nw v' e sz l' hr
   cases o with
   | true => simp at hv
   | false =>
    simp only at hv
    split at hv
    ·rename_i hb
     have := Nat.eq_of_beq_eq_true hb
     subst this
     cases hv
     simp only [vrep] at hu
     obtain ⟨v', xs, h1, h2, h3, _, h4⟩ := h.row hr
     rw [hu.1] at h1; cases h1
     rcases h4 with ⟨h4, _⟩ | ⟨_, h4, h5⟩
     ·cases h4
     ·exact h5
    ·cases hv
  ·cases hv
 ·cases hv
theorem Vx (h : AG B g w st) {v : V} {n : Nat} (hv : Z4 st v = some n) {u : Value} (hu : vrep B g w v u) : ∃ a cap, u = .slice a n cap := by
 unfold Z4 at hv
 split at hv
 ·cases hv
  simp only [vrep, drep] at hu
  obtain ⟨a, cap, cs, e, _⟩ := hu
  exact ⟨a, cap, e⟩
 ·split at hv
  ·cases hv; simp only [vrep, drep] at hu; exact ⟨none, 0, hu⟩
  ·cases hv
 ·split at hv
  ·rename_i o nw v' e sz l' hr
   split at hv
   ·rename_i hb
    have := Nat.eq_of_beq_eq_true hb
    subst this
    cases hv
    simp only [vrep] at hu
    obtain ⟨v', xs, h1, h2, h3, _, h4⟩ := h.row hr
    rw [hu.1] at h1; cases h1
    rcases h4 with ⟨_, h4, _⟩ | ⟨_, _, h4⟩
    ·rcases h4.2 with ⟨rfl, h5⟩ | ⟨gb, cap, cur, rfl, _⟩
     ·exact ⟨none, 0, by rw [h5]⟩
     ·exact ⟨_, cap, rfl⟩
    ·simp only [drep] at h4
     obtain ⟨a, cap, cs, e, _⟩ := h4
     exact ⟨a, cap, e⟩
   ·cases hv
  ·cases hv
 ·cases hv
end
section
variable {P : Program} {cx : Cx} {s : St} {Q : VE → St → Prop} {ops rest : List Oper}
theorem UL {t ty e : TypeId} {x : Operand} {v : V} {n sz by_ : Nat} [hE : EU P t e sz by_] (hx : Af s x = some v) (hn : Z4 s.st v = some n) : Bn P cx (.call { callee := .builtin .len, args := #[x], argTypes := #[t] }) ty s (I .i64 (n : Int)) := fun g a w hS => by
 obtain ⟨ad, cap, h⟩ := Vx hS.st hn (hS.eval hx)
 refine ⟨.int .i64 n, ?_, by simp only [vrep, drep]⟩
 simp [execOp, resolve, invoke, builtin, Builtin.len_, h, run_underlying hE.elem.und w, goInt]
theorem UI {ty : TypeId} {x y : Operand} {tys : Array TypeId} {k : IntKind} {a b : Int} (hx : Af s x = some (I k a)) (hy : Af s y = some (I k b)) : Bn P cx (.call { callee := .builtin .min, args := #[x, y], argTypes := tys }) ty s (I k (min a b)) := fun g ac w hS => by
 have h1 := hS.eval hx
 have h2 := hS.eval hy
 simp only [vrep, drep] at h1 h2
 refine ⟨.int k (min a b), ?_, by simp only [vrep, drep]⟩
 have : (if b < a then b else a) = min a b := by simp only [Int.min_def]; split <;> split <;> omega
 simp [execOp, resolve, invoke, builtin, Builtin.min_, Builtin.min2, h1, h2, this]
theorem UJ {ty : TypeId} {x y : Operand} {tys : Array TypeId} {k : IntKind} {a b : Int} (hx : Af s x = some (I k a)) (hy : Af s y = some (I k b)) : Bn P cx (.call { callee := .builtin .max, args := #[x, y], argTypes := tys }) ty s (I k (max a b)) := fun g ac w hS => by
 have h1 := hS.eval hx
 have h2 := hS.eval hy
 simp only [vrep, drep] at h1 h2
 refine ⟨.int k (max a b), ?_, by simp only [vrep, drep]⟩
 have : (if a < b then b else a) = max a b := by simp only [Int.max_def]; split <;> split <;> omega
 simp [execOp, resolve, invoke, builtin, Builtin.max_, Builtin.max2, h1, h2, this]
theorem UO {x : Operand} {ty : TypeId} {i : Nat} {l : List V} {v : V} (hx : Af s x = some (.tup l)) (hl : l[i]? = some v) : Bn P cx (.extract x i) ty s v := fun g a w hS => by
 have h1 := hS.eval hx
 simp only [vrep] at h1
 obtain ⟨cs, h1, h2⟩ := h1
 obtain ⟨u, k1, k2⟩ := Ck h2 hl
 exact ⟨u, by simp [execOp, Instr.extract, h1, k1], k2⟩
theorem Qj {x : Operand} {ty : TypeId} {i : Nat} {l : List D} {v : D} (hx : Af s x = some (.d (.tup l))) (hl : l[i]? = some v) : Bn P cx (.extract x i) ty s (.d v) := fun g a w hS => by
 have h1 := hS.eval hx
 simp only [vrep, drep] at h1
 obtain ⟨cs, h1, h2⟩ := h1
 obtain ⟨u, k1, k2⟩ := CN h2 hl
 exact ⟨u, by simp [execOp, Instr.extract, h1, k1], by simp only [vrep]; exact k2⟩
theorem UH {ty : TypeId} {fn : Fn} {fi ca : Array Operand} {v1 v2 : List V} (h1 : AY s fi.toList = some v1) (h2 : AY s ca.toList = some v2) : Bn P cx (.makeFunc fn fi ca) ty s (.fn fn v1 v2) := fun g a w hS => by
 have k1 := hS.evals h1
 have k2 := hS.evals h2
 refine ⟨.func fn (fi.map a.eval) (ca.map a.eval), by simp [execOp, Instr.makeFunc], ?_⟩
 simp only [vrep]
 exact ⟨_, _, by rw [← Array.toList_map, ← Array.toList_map, Array.toArray_toList, Array.toArray_toList], k1, k2⟩
theorem UG {t ty : TypeId} {x : Operand} {v : V} [ht : QO P t] (hx : Af s x = some v) : Bn P cx (.makeInterface t x) ty s (.ifc t v) := fun g a w hS => by
 obtain ⟨d, h1, h2⟩ := Option.map_eq_some_iff.1 ht.und
 refine ⟨.iface t (a.eval x), ?_, by simp only [vrep]; exact ⟨_, rfl, hS.eval hx⟩⟩
 have : (Instr.makeInterface t (a.eval x)).run P w = .ok (.iface t (a.eval x)) w := by
  unfold Instr.makeInterface
  rw [Sem.run_bind, run_underlying h1 w]
  cases d <;> simp_all [VQ]
 simp [execOp, this]
theorem Xu {x : Operand} {ty t : TypeId} {v : V} (hx : Af s x = some (.ifc t v)) : OpP P cx (.panic x) ty s (.ifc t v) := fun g a w hS => by
 have h1 := hS.eval hx
 have h0 := h1
 simp only [vrep] at h1
 obtain ⟨y, h1, h2⟩ := h1
 exact ⟨a.eval x, by simp [execOp, Instr.panic, h1, goPanic, Sem.run], h0⟩
theorem UX {x : Operand} {ty t : TypeId} {v : D} (hx : Af s x = some (.d (.ifc t v))) : OpP P cx (.panic x) ty s (.d (.ifc t v)) := fun g a w hS => by
 have h1 := hS.eval hx
 have h0 := h1
 simp only [vrep, drep] at h1
 obtain ⟨y, h1, h2⟩ := h1
 exact ⟨a.eval x, by simp [execOp, Instr.panic, h1, goPanic, Sem.run], h0⟩
theorem UN {t ty e : TypeId} {x y : Operand} {k : IntKind} {i : Int} {v : V} {c f : Bool} {l : List (List D)} {sz by_ : Nat} {cs : List D} [hE : EU P t e sz by_] (hx : Af s x = some v) (hv : slV s.st v = some (c, f, l)) (hy : Af s y = some (I k i)) (h0 : 0 ≤ i) (hl : l[i.toNat]? = some cs) (hc : cs.length = sz) :
  Bn P cx (.indexAddr t x y) ty s (.ep cs) := fun g a w hS => by
 have h1 := Ns hS.st hv (hS.eval hx)
 have h2 := hS.eval hy
 simp only [vrep, drep] at h1 h2
 obtain ⟨ad, cap, us, h1, e2, e3, e4, e5, ⟨sz', e6⟩, e0, e7, e8⟩ := h1
 have hlt := (List.getElem?_eq_some_iff.1 hl).1
 obtain rfl : sz' = sz := by rw [← hc]; exact (e6 cs (List.mem_of_getElem? hl)).symm
 have hpos := hE.elem.pos
 have hd := Ir e6 e8 hl
 have hulen := DI e6 e8
 have hd' : ∃ u, us[i.toNat * sz']? = some u := by
  have : i.toNat * sz' < us.length := by rw [hulen]; exact (Nat.mul_lt_mul_right hpos).2 hlt
  exact ⟨us[i.toNat * sz'], List.getElem?_eq_getElem this⟩
 obtain ⟨u0, hu0⟩ := hd'
 obtain ⟨b, o, rfl, _, _⟩ := e7 _ u0 hu0
 have hadd : (⟨b, o, none⟩ : Addr).add (i.toNat * sz') = ⟨b, o + i.toNat * sz', none⟩ := by unfold Addr.add; split <;> simp_all
 refine ⟨.pointer (some ⟨b, o + i.toNat * sz', none⟩), ?_, ?_⟩
 ·have hi : (i < (l.length : Int)) := by omega
  simp [execOp, h1, h2, Instr.indexAt, asIntOf, run_underlying hE.elem.und w, Cw hE.elem, h0, hi, hadd]
 ·simp only [vrep]
  refine ⟨b, o + i.toNat * sz', _, rfl, fun j u hj => ?_, hd⟩
  rw [List.getElem?_take] at hj
  split at hj
  ·rw [List.getElem?_drop] at hj
   obtain ⟨b', o', e, hp, hcell⟩ := e7 _ u hj
   cases e
   exact ⟨b, _, rfl, hp.1, by rw [Nat.add_assoc]; exact hcell⟩
  ·cases hj
theorem Qf {t ty e : TypeId} {x y : Operand} {k0 : IntKind} {i : Int} {k off n sz : Nat} [hA : EE P t n e sz] (hx : Af s x = some (.ptr k off)) (hy : Af s y = some (I k0 i)) (h0 : 0 ≤ i) (h1 : i < (n : Int)) : Bn P cx (.indexAddr t x y) ty s (.ptr k (off + i.toNat * sz)) := fun g a w hS => by
 have hx' := hS.eval hx
 have hy' := hS.eval hy
 simp only [vrep, drep] at hx' hy'
 obtain ⟨b, hb, hx'⟩ := hx'
 obtain ⟨hu, ie, hie, hsz⟩ := hA.get
 have hadd : (⟨b, off, none⟩ : Addr).add (i.toNat * sz) = ⟨b, off + i.toNat * sz, none⟩ := by unfold Addr.add; split <;> simp_all
 refine ⟨.pointer (some ⟨b, off + i.toNat * sz, none⟩), ?_, by simp only [vrep]; exact ⟨b, hb, rfl⟩⟩
 have hs : (sizeOf e).run P w = .ok sz w := by simp [sizeOf, typeInfo, hie, hsz]
 simp [execOp, hx', hy', Instr.indexAt, asIntOf, run_underlying hu w, hs, h0, h1, hadd, Instr.sureAddr]
theorem Qe {t ty e e' : TypeId} {x y : Operand} {k0 : IntKind} {i : Int} {k ver sz by_ : Nat} {nw : Bool} {l : List (List D)} [hE : EU P t e sz by_] (hx : Af s x = some (.row k ver)) (hy : Af s y = some (I k0 i)) (hr : AB k s.st = some (true, nw, ver, e', sz, l)) (h0 : 0 ≤ i) (h1 : i < (l.length : Int)) :
  Bn P cx (.indexAddr t x y) ty s (.rp k ver sz i.toNat 0) := fun g a w hS => by
 have hx' := hS.eval hx
 have hy' := hS.eval hy
 simp only [vrep, drep] at hx' hy'
 obtain ⟨v, xs, r1, r2, r3, r4, r5⟩ := hS.st.row hr
 rw [hx'.1] at r1; cases r1
 rcases r5 with ⟨_, r5, _⟩ | ⟨h, _⟩
 ·rcases r5.2 with ⟨_, h5⟩ | ⟨b, cap, cur, h5, _⟩
  ·omega
  ·have hadd : (⟨b, 0, none⟩ : Addr).add (i.toNat * sz) = ⟨b, i.toNat * sz, none⟩ := by unfold Addr.add; split <;> simp_all
   refine ⟨.pointer (some ⟨b, i.toNat * sz, none⟩), ?_, ?_⟩
   ·simp [execOp, h5, hy', Instr.indexAt, asIntOf, run_underlying hE.elem.und w, Cw hE.elem, h0, h1, hadd]
   ·simp only [vrep]
    exact ⟨b, l.length, cap, by rw [hx'.1, h5], rfl⟩
 ·cases h
theorem OO {B : Nat} {g : G} {w : World} {st : List E} (hs : AG B g w st) {k ver : Nat} {nw : Bool} {e : TypeId} {sz : Nat} {l : List (List D)} (hr : AB k st = some (true, nw, ver, e, sz, l)) {i j : Nat} {cs : List D} (hl : l[i]? = some cs) {b n c : Nat} (hv : g.rw k ver = some (.slice (some ⟨b, 0, none⟩) n c)) :
  ∃ cur us, w.heap[b]? = some (.cells cur e (0, 0)) ∧ dreps B g.prot w (cs.drop j) us ∧ (∀ (m : Nat) u, us[m]? = some u → cur[i * sz + j + m]? = some u) ∧ (i + 1) * sz ≤ cur.size ∧ cs.length = sz := by
 obtain ⟨v, xs, r1, r2, r3, r4, r5⟩ := hs.row hr
 rw [hv] at r1; cases r1
 rcases r5 with ⟨_, r5, _⟩ | ⟨h, _⟩
 ·rcases r5.2 with ⟨h5, _⟩ | ⟨b', cap, cur, h5, _, hh, hn, _, hsz, ht⟩
  ·cases h5
  ·cases h5
   have hd := Ir r3.1 r2 hl
   have hlt := (List.getElem?_eq_some_iff.1 hl).1
   have hcs := r3.1 cs (List.mem_of_getElem? hl)
   have hlen := BB hd
   refine ⟨cur, (((xs.drop (i * sz)).take sz).drop j), hh, ?_, fun m u hm => ?_, ?_, hcs⟩
   ·refine Ge (by simp at hlen ⊢; omega) fun m x y hx hy => ?_
    rw [List.getElem?_drop] at hx hy
    obtain ⟨y', e1, k1⟩ := CN hd hx
    rw [hy] at e1; cases e1; exact k1
   ·rw [List.getElem?_drop, List.getElem?_take] at hm
    split at hm
    ·rw [List.getElem?_drop] at hm
     rw [← ht, List.getElem?_take] at hm
     split at hm
     ·rw [Nat.add_assoc]; simpa using hm
     ·cases hm
    ·cases hm
   ·rw [hsz]; exact Nat.mul_le_mul_right _ (by omega)
 ·cases h
theorem ND {t ty e : TypeId} {x : Operand} {k ver sz i j sz1 : Nat} {z : List Value} {nw : Bool} {l : List (List D)} {cs : List D} {d : D} [hT : Br P t false sz1 z] (hx : Af s x = some (.rp k ver sz i j)) (hr : AB k s.st = some (true, nw, ver, e, sz, l)) (hl : l[i]? = some cs) (hd : cs[j]? = some d) : Bn P cx (.load t x) ty s (.d d) := fun g a w hS => by
 have hx' := hS.eval hx
 simp only [vrep] at hx'
 obtain ⟨b, n, c, h1, h2⟩ := hx'
 obtain ⟨cur, us, k1, k2, k3, _⟩ := OO hS.st hr (j := j) hl h1
 obtain ⟨u, m1, m2⟩ := CN k2 (i := 0) (x := d) (by rw [List.getElem?_drop]; simpa using hd)
 refine ⟨u, ?_, by simp only [vrep]; exact m2⟩
 have := C4 (P := P) (hT := hT) (w := w) (a := ⟨b, i * sz + j, none⟩) (u := u) (by rw [cell_of_row w b _ cur e (0, 0) k1]; exact k3 0 u m1)
 simp [execOp, h2, Instr.loadAt, Instr.sureAddr, this]
theorem Le {t ty e : TypeId} {x : Operand} {k ver sz i j sz1 : Nat} {z : List Value} {nw : Bool} {l : List (List D)} {cs : List D} [hT : Br P t true sz1 z] (hx : Af s x = some (.rp k ver sz i j)) (hr : AB k s.st = some (true, nw, ver, e, sz, l)) (hl : l[i]? = some cs) (hd : j + sz1 ≤ cs.length) : Bn P cx (.load t x) ty s (.agg (((cs.drop j).take sz1).map .d)) := fun g a w hS => by
 have hx' := hS.eval hx
 simp only [vrep] at hx'
 obtain ⟨b, n, c, h1, h2⟩ := hx'
 obtain ⟨cur, us, k1, k2, k3, _⟩ := OO hS.st hr (j := j) hl h1
 have hlen := BB k2
 refine ⟨.agg (us.take sz1).toArray, ?_, ?_⟩
 ·have := CD (P := P) (hT := hT) (w := w) (b := b) (o := i * sz + j) (us := us.take sz1) (by simp at hlen ⊢; omega) (fun m u hm => by
   rw [List.getElem?_take] at hm
   split at hm
   ·rw [cell_of_row w b _ cur e (0, 0) k1]; exact k3 m u hm
   ·cases hm)
  simp [execOp, h2, Instr.loadAt, Instr.sureAddr, this]
 ·simp only [vrep]
  refine ⟨_, rfl, Hy ?_⟩
  refine Ge (by simp at hlen ⊢; omega) fun m x y hx hy => ?_
  rw [List.getElem?_take] at hx hy
  split at hx
  ·rename_i hlt
   rw [if_pos hlt] at hy
   obtain ⟨y', e1, q1⟩ := CN k2 hx
   rw [hy] at e1; cases e1; exact q1
  ·cases hx
end

end Go.Proofs.YtbgcjnfhadhjeaaGreat