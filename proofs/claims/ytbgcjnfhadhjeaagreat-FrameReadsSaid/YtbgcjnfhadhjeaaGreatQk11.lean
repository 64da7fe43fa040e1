/- Walks by data and names, part 11: Values, and rows, that are written out part by part; assertions of types. Stores to rows. Interfaces in walks: is it nil; which type. -/
import Derived.Laws.Tables
import Derived.Laws.BytesArg
import Derived.Laws.IdiomStrings
import Derived.Laws.Strings
import Derived.Test.YtbgcjnfhadhjeaaGreatQk10
namespace Go.Proofs.YtbgcjnfhadhjeaaGreat
set_option maxRecDepth 20000
open Go.RowKit
def AbS (P : Program) : TypeDesc → Option (List (Nat × Nat))
 | .struct fs => fs.toList.mapM fun f => (P.info? f.type).map fun i => (f.offset, i.size)
 | _ => none
class N5 (P : Program) (t : TypeId) (pl : outParam (List (Nat × Nat))) : Prop where
 at_ : (P.underlying t).bind (AbS P) = some pl
theorem Lz : ∀ (vs : List Value) (k : Nat) (cs : Array Value) (off : Nat), off + k + vs.length ≤ cs.size →
  ((vs.zipIdx k).foldl (fun cs (p : Value × Nat) => cs.setIfInBounds (off + p.2) p.1) cs).toList = cs.toList.take (off + k) ++ vs ++ cs.toList.drop (off + k + vs.length)
 | [], k, cs, off, _ => by simp
 | v :: vs, k, cs, off, h => by
  simp only [List.length_cons] at h
  simp only [List.zipIdx_cons, List.foldl_cons]
  rw [Lz vs (k + 1) _ off (by simp; omega)]
  have hlt : off + k < cs.toList.length := by simp; omega
  have e1 : (cs.toList.set (off + k) v).take (off + k + 1) = cs.toList.take (off + k) ++ [v] := by
   rw [List.take_succ_eq_append_getElem (by rw [List.length_set]; exact hlt), List.take_set_of_le (Nat.le_refl _)]
   simp
  have e2 : (cs.toList.set (off + k) v).drop (off + k + (vs.length + 1)) = cs.toList.drop (off + k + (vs.length + 1)) := List.drop_set_of_lt (by omega)
  rw [Array.toList_setIfInBounds, show off + (k + 1) = off + k + 1 by omega, List.length_cons, show off + k + 1 + vs.length = off + k + (vs.length + 1) by omega, e1, e2]
  simp
def ZB (l : List V) (off : Nat) (vs : List V) : List V := l.take off ++ (vs ++ l.drop (off + vs.length))
def Ly : List V → Option (List V)
 | [] => some []
 | x :: xs => match Ly xs with
  | some ys => some (x :: ys)
  | none => none
theorem MT : ∀ {l m : List V}, Ly l = some m → m = l
 | [], m, h => by simp only [Ly, Option.some.injEq] at h; exact h.symm
 | x :: xs, m, h => by
  simp only [Ly] at h
  split at h
  ·rename_i ys hys; cases h; rw [MT hys]
  ·cases h
def MW (place : Nat → Option (Nat × Nat)) (zs : List V) : List (Nat × List V) → Option (List V)
 | [] => Ly zs
 | (i, vs) :: rest => match place i with
  | none => none
  | some (off, size) => (match Nat.beq vs.length size with
   | true => (match Nat.ble (off + size) zs.length with
    | true => MW place (ZB zs off vs) rest
    | false => none)
   | false => none)
theorem JJ {B : Nat} {g : G} {w : World} {place : Nat → Option (Nat × Nat)} : ∀ {parts : List (Nat × List V)} {rparts : List (Nat × Value)} {zs : List V} {cs : Array Value} {vs : List V}, vreps B g w zs cs.toList → parts.length = rparts.length →
  (∀ (j : Nat) i l, parts[j]? = some (i, l) → ∃ v, rparts[j]? = some (i, v) ∧ vreps B g w l v.cells.toList) → MW place zs parts = some vs → ∃ cs', Instr.fill place cs rparts = some cs' ∧ vreps B g w vs cs'.toList
 | [], [], zs, cs, vs, hz, _, _, h => by
  simp only [MW] at h
  rw [MT h]
  exact ⟨cs, rfl, hz⟩
 | [], _ :: _, _, _, _, _, h, _, _ => by simp at h
 | _ :: _, [], _, _, _, _, h, _, _ => by simp at h
 | (i, l) :: parts, (i', v) :: rparts, zs, cs, vs, hz, hl, hp, h => by
  obtain ⟨v', e, hv⟩ := hp 0 i l rfl
  simp only [List.getElem?_cons_zero, Option.some.injEq, Prod.mk.injEq] at e
  obtain ⟨rfl, rfl⟩ := e
  simp only [MW] at h
  split at h
  ·cases h
  ·rename_i off size hpl
   split at h
   ·rename_i h1
    have h1 := Nat.eq_of_beq_eq_true h1
    split at h
    ·rename_i h2
     have h2 := Nat.le_of_ble_eq_true h2
     have hlv := C0 hv
     have hlz := C0 hz
     have hsz : v.cells.size = size := by rw [← h1, ← hlv]; simp
     have hcs : cs.size = zs.length := by rw [← hlz]; simp
     have hfold : (v.cells.zipIdx.foldl (fun cs (p : Value × Nat) => cs.setIfInBounds (off + p.2) p.1) cs).toList = cs.toList.take off ++ v.cells.toList ++ cs.toList.drop (off + v.cells.toList.length) := by
      have := Lz v.cells.toList 0 cs off (by simp [hsz]; omega)
      rw [Nat.add_zero] at this
      rw [← this, ← Array.foldl_toList, Array.toList_zipIdx]
     have hz' : vreps B g w (ZB zs off l) (v.cells.zipIdx.foldl (fun cs (p : Value × Nat) => cs.setIfInBounds (off + p.2) p.1) cs).toList := by
      rw [hfold, ZB, List.append_assoc]
      refine Em (DN hz off).1 (Em hv ?_)
      rw [hlv]; exact (DN hz _).2
     obtain ⟨cs', k1, k2⟩ := JJ hz' (by simpa using hl) (fun j i l hj => by have := hp (j + 1) i l (by simpa using hj); simpa using this) h
     refine ⟨cs', ?_, k2⟩
     simp only [Instr.fill, hpl]
     rw [if_neg (by simp [hsz, hcs]; omega)]
     exact k1
    ·cases h
   ·cases h
def JL (s : St) : List (Nat × Operand) → Option (List (Nat × List V))
 | [] => some []
 | (i, x) :: r => match Af s x with
  | none => none
  | some v => (match Bt v with
   | none => none
   | some vs => (match JL s r with
    | none => none
    | some ps => some ((i, vs) :: ps)))
section
variable {P : Program} {cx : Cx} {s : St} {Q : VE → St → Prop} {ops rest : List Oper}
theorem Iz {g : G} {a : Act} {w : World} (hS : Dg cx g a w s) : ∀ {l : List (Nat × Operand)} {ps : List (Nat × List V)}, JL s l = some ps → ps.length = l.length ∧ ∀ (j : Nat) i vs, ps[j]? = some (i, vs) → ∃ v, (l.map fun (i, x) => (i, a.eval x))[j]? = some (i, v) ∧ vreps cx.B g w vs v.cells.toList
 | [], ps, h => by simp only [JL, Option.some.injEq] at h; subst h; simp
 | (i, x) :: r, ps, h => by
  simp only [JL] at h
  split at h
  ·cases h
  ·rename_i v hv
   split at h
   ·cases h
   ·rename_i vs hvs
    split at h
    ·cases h
    ·rename_i ps' hps
     cases h
     obtain ⟨h1, h2⟩ := Iz hS hps
     refine ⟨by simp [h1], fun j i' vs' hj => ?_⟩
     cases j with
     | zero => simp at hj; obtain ⟨rfl, rfl⟩ := hj; exact ⟨a.eval x, by simp, CC hvs (hS.eval hv)⟩
     | succ j => simpa using h2 j i' vs' (by simpa using hj)
theorem NF {t ty : TypeId} {parts : Array (Nat × Operand)} {ps : List (Nat × List V)} {sz : Nat} {z : List Value} {pl : List (Nat × Nat)} {vs : List V} [hT : BE P t true sz z] [hP : N5 P t pl] (hp : JL s parts.toList = some ps) (hf : MW (pl[·]?) (z.map fun x => .d (.lit x)) ps = some vs) : Bq P cx (.build t parts) ty s (.agg vs) := fun g a w hS => by
 obtain ⟨h1, h2⟩ := Iz hS hp
 obtain ⟨i, zv, e1, e2, e3, e4⟩ := hT.size
 obtain ⟨d, q1, q2⟩ := Option.bind_eq_some_iff.1 hP.at_
 unfold AbS at q2
 split at q2
 ·rename_i fs
  obtain ⟨cs', k1, k2⟩ := JJ (B := cx.B) (g := g) (w := w) (cs := zv.cells) (rparts := parts.toList.map fun (i, x) => (i, a.eval x)) (by rw [e4]; exact Gu) (by simp [h1]) h2 hf
  refine ⟨.agg cs', ?_, by simp only [vrep]; exact ⟨cs'.toList, by simp, k2⟩⟩
  have hb : P.built t (parts.map fun (i, x) => (i, a.eval x)).toList = some cs' := by
   simp only [Program.built, e1, q1, e3, q2]
   rw [Array.toList_map]
   simpa using k1
  have := run_build (P := P) w t (parts.map fun (i, x) => (i, a.eval x)) cs' hb
  simp [execOp, this]
 ·cases q2
theorem Li {t ty e : TypeId} {parts : Array (Nat × Operand)} {ps : List (Nat × List V)} {n sz esz : Nat} {z : List Value} {vs : List V} [hT : BE P t true sz z] [hA : EP P t n e esz] (hp : JL s parts.toList = some ps) (hf : MW (fun i => some (i * esz, esz)) (z.map fun x => .d (.lit x)) ps = some vs) : Bq P cx (.build t parts) ty s (.agg vs) := fun g a w hS => by
 obtain ⟨h1, h2⟩ := Iz hS hp
 obtain ⟨i, zv, e1, e2, e3, e4⟩ := hT.size
 obtain ⟨hu, ie, hie, hsz⟩ := hA.get
 obtain ⟨cs', k1, k2⟩ := JJ (B := cx.B) (g := g) (w := w) (cs := zv.cells) (rparts := parts.toList.map fun (i, x) => (i, a.eval x)) (by rw [e4]; exact Gu) (by simp [h1]) h2 hf
 refine ⟨.agg cs', ?_, by simp only [vrep]; exact ⟨cs'.toList, by simp, k2⟩⟩
 have hb : P.built t (parts.map fun (i, x) => (i, a.eval x)).toList = some cs' := by
  simp only [Program.built, e1, hu, e3, hie, hsz]
  rw [Array.toList_map]
  simpa using k1
 have := run_build (P := P) w t (parts.map fun (i, x) => (i, a.eval x)) cs' hb
 simp [execOp, this]
def AQ : D → List D
 | .agg l => l
 | d => [d]
def Ed (s : St) (sz : Nat) : Nat → List (Nat × Operand) → Option (List (List D))
 | _, [] => some []
 | k, (i, x) :: r => match Nat.beq i k with
  | false => none
  | true => (match Af s x with
   | none => none
   | some v => (match Fz s.st v with
    | none => none
    | some d => (match Bt (.d d) with
     | none => none
     | some vs => (match Ca vs && Nat.beq vs.length sz with
      | false => none
      | true => (match Ed s sz (k + 1) r with
       | none => none
       | some es => some (AQ d :: es))))))
theorem KW {size : Nat} : ∀ (vs : List Value) (k : Nat) (cs : Array Value), (∀ v ∈ vs, v.cells.size = size) → cs.size = (k + vs.length) * size →
  ∃ cs', Instr.fill (fun i => some (i * size, size)) cs (vs.zipIdx k |>.map fun (v, i) => (i, v)) = some cs' ∧ cs'.toList = cs.toList.take (k * size) ++ (vs.map fun v => v.cells.toList).flatten
 | [], k, cs, _, hs => ⟨cs, rfl, by simp only [List.map_nil, List.flatten_nil, List.append_nil]; rw [List.take_of_length_le (by simp at hs ⊢; omega)]⟩
 | v :: vs, k, cs, hv, hs => by
  have h0 := hv v (by simp)
  have hsz : cs.size = k * size + size + vs.length * size := by rw [hs, List.length_cons, Nat.add_mul, Nat.add_mul]; omega
  have hfold : (v.cells.zipIdx.foldl (fun cs (p : Value × Nat) => cs.setIfInBounds (k * size + p.2) p.1) cs).toList = cs.toList.take (k * size) ++ v.cells.toList ++ cs.toList.drop (k * size + v.cells.toList.length) := by
   have := Lz v.cells.toList 0 cs (k * size) (by simp [h0]; omega)
   rw [Nat.add_zero] at this
   rw [← this, ← Array.foldl_toList, Array.toList_zipIdx]
  have hlen : (v.cells.zipIdx.foldl (fun cs (p : Value × Nat) => cs.setIfInBounds (k * size + p.2) p.1) cs).size = cs.size := by
   rw [← Array.length_toList, hfold]; simp [h0]; omega
  obtain ⟨cs', k1, k2⟩ := KW vs (k + 1) (v.cells.zipIdx.foldl (fun cs (p : Value × Nat) => cs.setIfInBounds (k * size + p.2) p.1) cs) (fun x hx => hv x (by simp [hx])) (by rw [hlen, hsz, Nat.add_mul, Nat.add_mul]; omega)
  refine ⟨cs', ?_, ?_⟩
  ·simp only [List.zipIdx_cons, List.map_cons, Instr.fill]
   rw [if_neg (by simp [h0]; omega)]
   exact k1
  ·rw [k2, hfold, List.map_cons, List.flatten_cons]
   rw [show (k + 1) * size = (cs.toList.take (k * size) ++ v.cells.toList).length by rw [Nat.add_mul]; simp [h0]; omega, List.take_left, List.append_assoc]
theorem IA {g : G} {a : Act} {w : World} (hS : Dg cx g a w s) {sz : Nat} : ∀ {l : List (Nat × Operand)} {k : Nat} {es : List (List D)}, Ed s sz k l = some es → (l.map fun (i, x) => (i, a.eval x)) = ((l.map fun p => a.eval p.2).zipIdx k |>.map fun (v, i) => (i, v)) ∧ es.length = l.length ∧
  drepss cx.B g.prot w es ((l.map fun p => a.eval p.2).map fun v => v.cells.toList).flatten ∧ (∀ x ∈ es, x.length = sz) ∧ (∀ v ∈ l.map fun p => a.eval p.2, v.cells.size = sz) ∧ ∀ u ∈ ((l.map fun p => a.eval p.2).map fun v => v.cells.toList).flatten, u.oneCell' = true
 | [], k, es, h => by simp only [Ed, Option.some.injEq] at h; subst h; simp [drepss]
 | (i, x) :: r, k, es, h => by
  simp only [Ed] at h
  split at h
  ·cases h
  ·rename_i hk
   have := Nat.eq_of_beq_eq_true hk
   subst this
   split at h
   ·cases h
   ·rename_i v hv
    split at h
    ·cases h
    ·rename_i d hd
     split at h
     ·cases h
     ·rename_i vs hvs
      split at h
      ·cases h
      ·have hb : (Ca vs && Nat.beq vs.length sz) = true := by assumption
       have hb := Bool.and_eq_true_iff.1 hb
       have hb2 := Nat.eq_of_beq_eq_true hb.2
       split at h
       ·cases h
       ·rename_i es' hes
        cases h
        obtain ⟨h1, h2, h3, h4, h5, h6⟩ := IA hS hes
        have hrep := EO hS.st hd (hS.eval hv)
        have hrep' : vrep cx.B g w (.d d) (a.eval x) := by simp only [vrep]; exact hrep
        have hvr := CC hvs hrep'
        have hone := Et hb.1 hvr
        have hvl := C0 hvr
        have hcd : dreps cx.B g.prot w (AQ d) (a.eval x).cells.toList ∧ (AQ d).length = vs.length := by
         unfold Bt at hvs
         split at hvs
         ·rename_i heq; cases heq
         ·rename_i l heq; cases heq; cases hvs
          simp only [drep] at hrep
          obtain ⟨cs, e, k⟩ := hrep
          rw [e]
          exact ⟨by simpa [AQ, Value.cells] using k, by simp [AQ]⟩
         ·rename_i hne1 hne2
          split at hvs
          ·rename_i hlf
           cases hvs
           have h1 := HY hlf hrep'
           have h3 : (a.eval x).cells = #[a.eval x] := by cases hq : a.eval x <;> rw [hq] at h1 <;> simp_all [Value.cells, Value.oneCell']
           have hc : AQ d = [d] := by
            cases d with
            | agg l => exact (hne2 l rfl).elim
            | _ => rfl
           rw [h3, hc]
           exact ⟨by simp only [dreps]; exact ⟨_, [], rfl, hrep, rfl⟩, rfl⟩
          ·cases hvs
        refine ⟨by simp [h1], by simp [h2], ?_, fun y hy => ?_, fun y hy => ?_, fun u hu => ?_⟩
        ·simp only [List.map_cons, List.flatten_cons, drepss]
         exact ⟨_, _, rfl, hcd.1, h3⟩
        ·rcases List.mem_cons.1 hy with rfl | hy
         ·rw [hcd.2, hb2]
         ·exact h4 y hy
        ·simp only [List.map_cons, List.mem_cons] at hy
         rcases hy with rfl | hy
         ·rw [← hb2, ← hvl]; simp
         ·exact h5 y hy
        ·simp only [List.map_cons, List.flatten_cons, List.mem_append] at hu
         rcases hu with hu | hu
         ·exact hone u hu
         ·exact h6 u hu
theorem JM {tm : List (Nat × V)} {st : List E} {nb nb' : Nat} {sz : Nat} : ∀ {l : List (Nat × Operand)} {k : Nat}, Ed ⟨tm, st, nb⟩ sz k l = Ed ⟨tm, st, nb'⟩ sz k l
 | [], _ => rfl
 | (i, x) :: r, k => by
  have e1 : Af ⟨tm, st, nb⟩ x = Af ⟨tm, st, nb'⟩ x := by cases x <;> rfl
  simp only [Ed, e1, JM (nb := nb) (nb' := nb') (l := r)]
theorem Xm {t ty e : TypeId} {n : Nat} {parts : Array (Nat × Operand)} {sz by_ k : Nat} {es : List (List D)} {tm : List (Nat × V)} {st : List E} [hE : EQ P t e sz by_] (hp : Ed ⟨tm, st, 0⟩ sz 0 parts.toList = some es) (hn : parts.size = n) (hn0 : Nat.ble 1 n = true) (hsm : Nat.ble (n * sz) 16777216 = true) :
  Qs P cx (.buildSlice t n parts) ty tm st (.row k 0) k (.r true true k 0 e sz es) := fun nb g a w hk hf hS => by
 have hp : Ed ⟨tm, st, nb⟩ sz 0 parts.toList = some es := by rw [← hp]; exact JM
 obtain ⟨h1, h2, h3, h4, h5, h6⟩ := IA hS hp
 obtain ⟨i, z, q1, q2, q3, q4, q5⟩ := hE.elem.info
 have hpos := hE.elem.pos
 have hn0 := Nat.le_of_ble_eq_true hn0
 have hsm := Nat.le_of_ble_eq_true hsm
 have hlen : (parts.toList.map fun p => a.eval p.2).length = n := by simp [hn]
 obtain ⟨cs', k1, k2⟩ := KW (parts.toList.map fun p => a.eval p.2) 0 ((Array.range (n * sz)).map (z.cells[· % z.cells.size]!)) h5 (by rw [hlen]; simp)
 have hnz : ¬ n * i.size = 0 := by rw [q3]; exact Nat.mul_ne_zero (by omega) (by omega)
 have hrun := run_buildSlice (P := P) w t e n (parts.map fun (i, x) => (i, a.eval x)) cs' i z hE.elem.und q1 q2 (by rw [q3]; omega) hnz (by
  rw [q3, Array.toList_map, h1]; exact k1)
 have hcs : cs'.toList = ((parts.toList.map fun p => a.eval p.2).map fun v => v.cells.toList).flatten := by rw [k2]; simp
 have hel : es.length = n := by rw [h2]; simpa using hn
 have hul := Dc h4 h3
 have hown : (w.alloc (.cells cs' e)).ownsRow w.heap.size e sz (.slice (some ⟨w.heap.size, 0, none⟩) n n) es.length ((parts.toList.map fun p => a.eval p.2).map fun v => v.cells.toList).flatten := by
  rw [hel]
  refine ⟨by rw [hul, hel], .inr ⟨w.heap.size, n, cs', rfl, Nat.le_refl _, heap_alloc_new w _, Nat.le_refl _, ?_, ?_, ?_⟩⟩
  ·have := Nat.le_mul_of_pos_right n hpos
   unfold maxLen; omega
  ·rw [← Array.length_toList, hcs, hul, hel]
  ·rw [hcs, List.take_of_length_le (by rw [hul, hel]; exact Nat.le_refl _)]
 obtain ⟨m1, m2, m3, m4⟩ := Ea hS.inv hf hk (w' := w.alloc (.cells cs' e)) ⟨rfl, rfl, rfl, by simp, fun k hk => Below.heap_alloc w _ k hk⟩ (e := e) (sz := sz) (AL (Nat.le_refl _) (fun b hb hp => ⟨⟨hp, fun he => by simp [Value.ownBlock] at he; omega⟩, Below.heap_alloc w _ b hb⟩) h3) ⟨h4, h6⟩ hown
 exact ⟨_, _, _, by simp [execOp, hrun], m1, m2, m3, m4⟩
end

def DP (cs : List D) (j : Nat) (ds : List D) : List D := cs.take j ++ (ds ++ cs.drop (j + ds.length))
theorem LE {B : Nat} {U : Nat → Prop} {w : World} {sz : Nat} : ∀ {l : List (List D)} {xs : List Value}, (∀ x ∈ l, x.length = sz) → drepss B U w l xs → ∀ {i j : Nat} {cs ds : List D} {us : List Value}, l[i]? = some cs → dreps B U w ds us → j + ds.length ≤ sz →
  drepss B U w (l.set i (DP cs j ds)) (xs.take (i * sz + j) ++ us ++ xs.drop (i * sz + j + us.length))
 | [], _, _, _, i, j, cs, ds, us, hl, _, _ => by simp at hl
 | x :: l, _, hz, h, i, j, cs, ds, us, hl, hd, hj => by
  simp only [drepss] at h
  obtain ⟨c1, c2, e, k1, k2⟩ := h
  subst e
  have h1 := Bx k1
  have h2 := hz x (by simp)
  have h3 := Bx hd
  cases i with
  | zero =>
   simp only [List.getElem?_cons_zero, Option.some.injEq] at hl
   subst hl
   simp only [List.set_cons_zero, Nat.zero_mul, Nat.zero_add, drepss]
   have hsplit : ∀ m, dreps B U w (x.take m) (c1.take m) ∧ dreps B U w (x.drop m) (c1.drop m) := fun m => by
    refine ⟨Ft (by simp [h1]) fun a p q hp hq => ?_, Ft (by simp [h1]) fun a p q hp hq => ?_⟩
    ·rw [List.getElem?_take] at hp hq
     split at hp
     ·rename_i hlt; rw [if_pos hlt] at hq
      obtain ⟨y', e1, q1⟩ := BU k1 hp
      rw [hq] at e1; cases e1; exact q1
     ·cases hp
    ·rw [List.getElem?_drop] at hp hq
     obtain ⟨y', e1, q1⟩ := BU k1 hp
     rw [hq] at e1; cases e1; exact q1
   refine ⟨c1.take j ++ (us ++ c1.drop (j + us.length)), c2, ?_, ?_, k2⟩
   ·rw [List.take_append_of_le_length (by omega), List.drop_append_of_le_length (by omega)]
    simp
   ·rw [DP, h3]
    exact Gi (hsplit j).1 (Gi hd (hsplit _).2)
  | succ i =>
   simp only [List.getElem?_cons_succ] at hl
   have ih := LE (fun y hy => hz y (by simp [hy])) k2 hl hd hj
   simp only [List.set_cons_succ, drepss]
   refine ⟨c1, _, ?_, k1, ih⟩
   have e1 : (i + 1) * sz + j = c1.length + (i * sz + j) := by rw [Nat.add_mul]; omega
   rw [e1, List.take_length_add_append, show c1.length + (i * sz + j) + us.length = c1.length + (i * sz + j + us.length) by omega, List.drop_length_add_append]
   simp
section
variable {P : Program} {cx : Cx} {s : St} {Q : VE → St → Prop} {ops rest : List Oper}
theorem TA {t ty e : TypeId} {x y : Operand} {k ver sz i j n : Nat} {ag nw : Bool} {z : List Value} {l : List (List D)} {cs : List D} {v : V} {vs : List V} {d : D} [hT : BE P t ag n z] (hx : Af s x = some (.rp k ver sz i j)) (hr : Az k s.st = some (true, nw, ver, e, sz, l)) (hl : l[i]? = some cs) (hy : Af s y = some v) (hd : Fz s.st v = some d) (hv : Bt (.d d) = some vs) (h1 : (Ca vs && Nat.beq vs.length n) = true) (hj : Nat.ble (j + n) sz = true) :
  Y5 P cx (.store t x y) ty s (.r true nw k ver e sz (l.set i (DP cs j (AQ d))) :: s.st) s.nb := fun g a w hS => by
 have hx' := hS.eval hx
 simp only [vrep] at hx'
 obtain ⟨b, m, c, hb, hx'⟩ := hx'
 have h1 := Bool.and_eq_true_iff.1 h1
 have hn := Nat.eq_of_beq_eq_true h1.2
 have hj := Nat.le_of_ble_eq_true hj
 have hrep := EO hS.st hd (hS.eval hy)
 have hrep' : vrep cx.B g w (.d d) (a.eval y) := by simp only [vrep]; exact hrep
 have hvr := CC hv hrep'
 have hone := Et h1.1 hvr
 have hvl := C0 hvr
 have hcd : dreps cx.B g.prot w (AQ d) (a.eval y).cells.toList ∧ (AQ d).length = n := by
  unfold Bt at hv
  split at hv
  ·rename_i heq; cases heq
  ·rename_i l heq; cases heq; cases hv
   simp only [drep] at hrep
   obtain ⟨cs, e, k⟩ := hrep
   rw [e]
   exact ⟨by simpa [AQ, Value.cells] using k, by rw [← hn]; simp [AQ]⟩
  ·rename_i hne1 hne2
   split at hv
   ·rename_i hlf
    cases hv
    have h1 := HY hlf hrep'
    have h3 : (a.eval y).cells = #[a.eval y] := by cases hq : a.eval y <;> rw [hq] at h1 <;> simp_all [Value.cells, Value.oneCell']
    have hc : AQ d = [d] := by
     cases d with
     | agg l => exact (hne2 l rfl).elim
     | _ => rfl
    rw [h3, hc]
    exact ⟨by simp only [dreps]; exact ⟨_, [], rfl, hrep, rfl⟩, by rw [← hn]; rfl⟩
   ·cases hv
 obtain ⟨v0, xs, r1, r2, r3, r4, r5⟩ := hS.st.row hr
 rw [hb] at r1; cases r1
 rcases r5 with ⟨_, r5, r6⟩ | ⟨h, _⟩
 ·rcases r5.2 with ⟨h5, _⟩ | ⟨b', cap, cur, h5, _, hh, hnc, hcm, hcs, ht⟩
  ·cases h5
  ·cases h5
   have hlt := (List.getElem?_eq_some_iff.1 hl).1
   have hxl := r5.1
   have hi1 : (i + 1) * sz ≤ l.length * sz := Nat.mul_le_mul_right _ hlt
   have hi2 : l.length * sz ≤ c * sz := Nat.mul_le_mul_right _ hnc
   rw [Nat.add_mul, Nat.one_mul] at hi1
   have hul : (a.eval y).cells.toList.length = n := by rw [hvl, hn]
   have hrun := GA (P := P) (t := t) (w := w) (b := b) (o := i * sz + j) (rcs := cur) (v := a.eval y) hh hul (by omega) hone
   have hg := Cj w b (cur.toList.take (i * sz + j) ++ (a.eval y).cells.toList ++ cur.toList.drop (i * sz + j + n)).toArray
   have hcurl : cur.toList.length = c * sz := by simpa using hcs
   have hnew := LE r3.1 r2 (j := j) hl hcd.1 (by rw [hcd.2]; exact hj)
   rw [hul] at hnew
   have hxs' : (xs.take (i * sz + j) ++ (a.eval y).cells.toList ++ xs.drop (i * sz + j + n)).length = l.length * sz := by
    rw [List.length_append, List.length_append, List.length_take, List.length_drop, hxl, hul]; omega
   have htk : (cur.toList.take (i * sz + j) ++ (a.eval y).cells.toList ++ cur.toList.drop (i * sz + j + n)).take (l.length * sz) = xs.take (i * sz + j) ++ (a.eval y).cells.toList ++ xs.drop (i * sz + j + n) := by
    rw [← ht]
    rw [List.take_append, List.take_of_length_le (by rw [List.length_append, List.length_take, hul, hcurl]; omega), List.length_append, List.length_take, hul, List.take_take, List.drop_take]
    congr 2
    ·rw [Nat.min_eq_left (by omega)]
    ·rw [hcurl]; omega
   have hown : (w.setRow b (cur.toList.take (i * sz + j) ++ (a.eval y).cells.toList ++ cur.toList.drop (i * sz + j + n)).toArray).ownsRow 0 e sz (.slice (some ⟨b, 0, none⟩) l.length c) (l.set i (DP cs j (AQ d))).length (xs.take (i * sz + j) ++ (a.eval y).cells.toList ++ xs.drop (i * sz + j + n)) := by
    rw [List.length_set]
    refine ⟨hxs', .inr ⟨b, c, _, rfl, Nat.zero_le _, setRow_heap w b cur _ e (0, 0) hh, hnc, hcm, ?_, ?_⟩⟩
    ·simp only [List.size_toArray, List.length_append, List.length_take, List.length_drop, hul, hcurl]; omega
    ·exact htk
   obtain ⟨m1, m2, m3, _⟩ := He hS.inv hS.st hr hb r6 hg (u := .slice (some ⟨b, 0, none⟩) l.length c) (AL (Nat.le_refl _) (fun b2 hb2 hp => ⟨⟨hp, fun he => hp (.inr (.inr ⟨k, r6.trans he.symm⟩))⟩, hg.block b2 hb2 fun he => hp (.inr (.inr ⟨k, r6.trans he.symm⟩))⟩) hnew)
    ⟨fun x hx => by
     rcases List.mem_or_eq_of_mem_set hx with h | h
     ·exact r3.1 x h
     ·rw [h, DP]; have := r3.1 cs (List.mem_of_getElem? hl); simp only [List.length_append, List.length_take, List.length_drop, hcd.2]; omega, fun u hu => by
     simp only [List.mem_append] at hu
     rcases hu with (hu | hu) | hu
     ·exact r3.2.1 u (List.mem_of_mem_take hu)
     ·exact hone u hu
     ·exact r3.2.1 u (List.mem_of_mem_drop hu)⟩ hown (fun b hb => .inl hb) (.inl ⟨rfl, rfl⟩)
   exact ⟨_, _, by simp [execOp, hx', Instr.storeAt, Instr.sureAddr, hrun], m1, m2, m3⟩
 ·cases h
end

def Mk : V → Option (Option (TypeId × V))
 | .ifc t x => some (some (t, x))
 | .d (.ifc t d) => some (some (t, .d d))
 | .d (.lit .nilIface) => some none
 | .d (.lit (.iface t v)) => some (some (t, .d (.lit v)))
 | _ => none
def Kh : Option (TypeId × V) → Bool
 | some _ => true
 | none => false
theorem I7 {B : Nat} {g : G} {w : World} {v : V} {o : Option (TypeId × V)} (h : Mk v = some o) {u : Value} (hu : vrep B g w v u) : match o with
  | some (t, x) => ∃ y, u = .iface t y ∧ vrep B g w x y
  | none => u = .nilIface := by
 unfold Mk at h
 split at h <;> cases h
 ·simp only [vrep] at hu; exact hu
 ·simp only [vrep, drep] at hu ⊢; exact hu
 ·simp only [vrep, drep] at hu; exact hu
 ·simp only [vrep, drep] at hu ⊢; exact ⟨_, hu, rfl⟩
theorem Ke {P : Program} {w : World} (d : Nat) {t : TypeId} [hT : Mq P t] {u : Value} {b : Bool} (h : (b = true ∧ u = .nilIface) ∨ (b = false ∧ ∃ s y, u = .iface s y)) : (Op.equalIn (d + 1) t u .nilIface).run P w = .ok b w := by
 obtain ⟨d, h1, h2⟩ := Option.map_eq_some_iff.1 hT.und
 have h3 : ∃ ms, d = .interface ms := by cases d <;> simp [Vy] at h2; exact ⟨_, rfl⟩
 obtain ⟨ms, rfl⟩ := h3
 rcases h with ⟨rfl, rfl⟩ | ⟨rfl, s, y, rfl⟩ <;> simp [Op.equalIn, run_underlying h1]
theorem Mg {P : Program} {w : World} {t : TypeId} [hT : Mq P t] {u : Value} {b : Bool} (h : (b = true ∧ u = .nilIface) ∨ (b = false ∧ ∃ s y, u = .iface s y)) : (Op.equal t u .nilIface).run P w = .ok b w := Ke 9999 h
theorem JW {P : Program} {w : World} {t : TypeId} [hT : Mq P t] {x : Operand} {u : Value} {b : Bool} (h : (b = true ∧ u = .nilIface) ∨ (b = false ∧ ∃ s y, u = .iface s y)) :
  (do eqGuard .eql t x (.const .nilIface) u .nilIface; binOp .eql t u .nilIface : Sem Value).run P w = .ok (.bool b) w ∧ (do eqGuard .neq t x (.const .nilIface) u .nilIface; binOp .neq t u .nilIface : Sem Value).run P w = .ok (.bool (!b)) w := by
 have h2 := Mg (P := P) (w := w) (t := t) h
 rcases h with ⟨rfl, rfl⟩ | ⟨rfl, s, y, rfl⟩ <;> simp [eqGuard, binOp, h2]
section
variable {P : Program} {cx : Cx} {s : St}
theorem YC {t yt ty : TypeId} {x : Operand} {v : V} {o : Option (TypeId × V)} [hT : Mq P t] (hx : Af s x = some v) (hv : Mk v = some o) : Bq P cx (.binOp .neq t x (.const .nilIface) yt) ty s (.d (.lit (.bool (Kh o)))) := fun g a w hS => by
 have h := I7 hv (hS.eval hx)
 have hh : ((!Kh o) = true ∧ a.eval x = .nilIface) ∨ ((!Kh o) = false ∧ ∃ s y, a.eval x = .iface s y) := by
  cases o with
  | none => exact .inl ⟨rfl, h⟩
  | some p => obtain ⟨y, h, _⟩ := h; exact .inr ⟨rfl, _, _, h⟩
 have h2 := (JW (P := P) (w := w) (t := t) (x := x) hh).2
 refine ⟨.bool (Kh o), ?_, by simp only [vrep, drep]⟩
 simp only [Sem.run_bind, Bool.not_not] at h2
 simp only [execOp, show a.eval (.const .nilIface) = .nilIface from rfl, Sem.run_bind, h2, Result.andThen_ok]
 simp
theorem YD {t yt ty : TypeId} {x : Operand} {v : V} {o : Option (TypeId × V)} [hT : Mq P t] (hx : Af s x = some v) (hv : Mk v = some o) : Bq P cx (.binOp .eql t x (.const .nilIface) yt) ty s (.d (.lit (.bool (!Kh o)))) := fun g a w hS => by
 have h := I7 hv (hS.eval hx)
 have hh : ((!Kh o) = true ∧ a.eval x = .nilIface) ∨ ((!Kh o) = false ∧ ∃ s y, a.eval x = .iface s y) := by
  cases o with
  | none => exact .inl ⟨rfl, h⟩
  | some p => obtain ⟨y, h, _⟩ := h; exact .inr ⟨rfl, _, _, h⟩
 have h2 := (JW (P := P) (w := w) (t := t) (x := x) hh).1
 refine ⟨.bool (!Kh o), ?_, by simp only [vrep, drep]⟩
 simp only [Sem.run_bind] at h2
 simp only [execOp, show a.eval (.const .nilIface) = .nilIface from rfl, Sem.run_bind, h2, Result.andThen_ok]
 simp
theorem PY {t yt ty : TypeId} {x : Operand} {v : V} {o : Option (TypeId × V)} [hT : Mq P t] (hx : Af s x = some v) (hv : Mk v = some o) (hb : Kh o = true) : Bq P cx (.binOp .neq t x (.const .nilIface) yt) ty s (.d (.lit (.bool true))) := by rw [← hb]; exact YC hx hv
theorem PZ {t yt ty : TypeId} {x : Operand} {v : V} {o : Option (TypeId × V)} [hT : Mq P t] (hx : Af s x = some v) (hv : Mk v = some o) (hb : Kh o = false) : Bq P cx (.binOp .neq t x (.const .nilIface) yt) ty s (.d (.lit (.bool false))) := by rw [← hb]; exact YC hx hv
theorem P9 {t yt ty : TypeId} {x : Operand} {v : V} {o : Option (TypeId × V)} [hT : Mq P t] (hx : Af s x = some v) (hv : Mk v = some o) (hb : Kh o = false) : Bq P cx (.binOp .eql t x (.const .nilIface) yt) ty s (.d (.lit (.bool true))) := by have h := YD (P := P) (cx := cx) (ty := ty) (t := t) (yt := yt) hx hv; rwa [hb] at h
theorem Qa {t yt ty : TypeId} {x : Operand} {v : V} {o : Option (TypeId × V)} [hT : Mq P t] (hx : Af s x = some v) (hv : Mk v = some o) (hb : Kh o = true) : Bq P cx (.binOp .eql t x (.const .nilIface) yt) ty s (.d (.lit (.bool false))) := by have h := YD (P := P) (cx := cx) (ty := ty) (t := t) (yt := yt) hx hv; rwa [hb] at h
theorem Aal {P : Program} {t : TypeId} [hT : Qu P t] : ∃ d, P.underlying t = some d ∧ ∀ ms, d ≠ .interface ms := by
 obtain ⟨d, h1, h2⟩ := Option.map_eq_some_iff.1 hT.und
 exact ⟨d, h1, fun ms e => by subst e; simp [Vy] at h2⟩
theorem KY {P : Program} {w : World} {t xt : TypeId} {y : Value} {ok : Bool} [hT : Qu P t] : (Instr.typeAssert (.iface t y) xt t ok).run P w = .ok (if ok then .tuple #[y, .bool true] else y) w := by
 obtain ⟨d, h1, h2⟩ := Aal (P := P) (t := t)
 simp only [Instr.typeAssert, Sem.run_bind, run_underlying h1, Result.andThen_ok]
 cases d <;> first | exact absurd rfl (h2 _) | simp
theorem ZP {xt t t' ty : TypeId} {x : Operand} {v y : V} [hT : Qu P t] (hx : Af s x = some v) (hv : Mk v = some (some (t', y))) (ht : Nat.beq t' t = true) : Bq P cx (.typeAssert x xt t true) ty s (.tup [y, .d (.lit (.bool true))]) := fun g a w hS => by
 obtain ⟨u, h1, h2⟩ := I7 hv (hS.eval hx)
 have := Nat.eq_of_beq_eq_true ht
 subst this
 refine ⟨.tuple #[u, .bool true], by simp [execOp, h1, KY], ?_⟩
 simp only [vrep, vreps]
 exact ⟨[u, .bool true], rfl, u, [.bool true], rfl, h2, .bool true, [], rfl, by simp only [drep], rfl⟩
theorem Uw {xt t t' ty : TypeId} {x : Operand} {v y : V} [hT : Qu P t] (hx : Af s x = some v) (hv : Mk v = some (some (t', y))) (ht : Nat.beq t' t = true) : Bq P cx (.typeAssert x xt t false) ty s y := fun g a w hS => by
 obtain ⟨u, h1, h2⟩ := I7 hv (hS.eval hx)
 have := Nat.eq_of_beq_eq_true ht
 subst this
 exact ⟨u, by simp [execOp, h1, KY], h2⟩
end

section
variable {P : Program} {cx : Cx} {s : St}
theorem IQ {w : World} {t e n sz b o : Nat} [hA : EP P t n e sz] : (Instr.sliceAt t (.pointer (some ⟨b, o, none⟩)) none none none).run P w = .ok (.slice (some ⟨b, o, none⟩) n n) w := by
 obtain ⟨h1, i, h2, h3⟩ := hA.get
 have hs : (sizeOf e).run P w = .ok sz w := by simp [sizeOf, typeInfo, h2, h3]
 have hb : (Instr.sliceBounds false n n none none none).run P w = .ok (0, n, n) w := by simp [Instr.sliceBounds]
 have ha : (⟨b, o, none⟩ : Addr).add 0 = ⟨b, o, none⟩ := by simp [Addr.add]
 simp [Instr.sliceAt, run_underlying h1, Instr.sureAddr, hb, hs, ha]
theorem Lc {t ty e : TypeId} {x : Operand} {k off n sz : Nat} [hA : EP P t n e sz] (hx : Af s x = some (.ptr k off)) (hn : Nat.ble n 9223372036854775807 = true) : Bq P cx (.slice t x none none none) ty s (.sv k off n n sz) := fun g a w hS => by
 have h := hS.eval hx
 simp only [vrep] at h
 obtain ⟨b, hb, hu⟩ := h
 refine ⟨.slice (some ⟨b, off, none⟩) n n, ?_, by simp only [vrep]; exact ⟨b, hb, rfl, Nat.le_refl _, Nat.le_of_ble_eq_true hn⟩⟩
 simp [execOp, hu, IQ (P := P) (t := t) (n := n) (e := e) (sz := sz)]
theorem Ld {t ty e : TypeId} {x : Operand} {n sz : Nat} {l : List D} [hA : EP P t n e sz] (hx : Af s x = some (.ep l)) (hl : l.length = n * sz) (h1 : Ca (l.map .d) = true) (hn : Nat.ble n 9223372036854775807 = true) : Bq P cx (.slice t x none none none) ty s (.d (.sl false false (Ik sz n l))) := fun g a w hS => by
 have h := hS.eval hx
 simp only [vrep] at h
 obtain ⟨b, o, cs, hu, k1, k2⟩ := h
 obtain ⟨m1, m2⟩ := GO hl k2
 refine ⟨.slice (some ⟨b, o, none⟩) n n, ?_, ?_⟩
 ·simp [execOp, hu, IQ (P := P) (t := t) (n := n) (e := e) (sz := sz)]
 ·simp only [vrep, drep]
  exact ⟨_, n, cs, by rw [Gm], by rw [Gm]; exact Nat.le_refl _, Nat.le_of_ble_eq_true hn, (fun h => by cases h), (fun h => by cases h), ⟨sz, m2⟩, Et h1 (HK k2), k1.imp fun _ hb => ⟨hb, fun h => by cases h⟩, m1⟩
end

abbrev By (b : List UInt8) : Value := .string ⟨b.toArray⟩
inductive BsV : V → List UInt8 → Prop where
 | sl {c f : Bool} {b : List UInt8} : BsV (.d (.sl c f (b.map fun x => [.lit (vb x)]))) b
 | nil : BsV (.d (.lit (.slice none 0 0))) []
section
variable {P : Program} {cx : Cx} {s : St}
theorem Jf {B : Nat} {U : Nat → Prop} {w : World} : ∀ {b : List UInt8} {cs : List Value}, drepss B U w (b.map fun x => [.lit (vb x)]) cs → cs = b.map vb
 | [], _, h => by simpa only [List.map_nil, drepss] using h
 | x :: b, _, h => by
  simp only [List.map_cons, drepss, dreps, drep] at h
  obtain ⟨c1, c2, rfl, ⟨y, ys, rfl, rfl, rfl⟩, h2⟩ := h
  rw [Jf h2]; rfl
theorem Qb {t1 t2 ty e : TypeId} {by_ : Nat} {x : Operand} {v : V} {b : List UInt8} [hE : EQ P t1 e 1 by_] [hI : Jn P e .u8] [hS2 : Ady P t2] (hx : Af s x = some v) (hb : BsV v b) : Bq P cx (.convert t1 t2 x) ty s (.d (.lit (By b))) := fun g a w hS => by
 have h := hS.eval hx
 refine ⟨By b, ?_, by simp only [vrep, drep]⟩
 cases hb with
 | nil =>
  simp only [vrep, drep] at h
  simp only [execOp, h, Sem.run_bind]
  have := run_convert_bytes_nil w t1 e hE.elem.und hI.und 0 0 t2 hS2.und
  rw [this]; rfl
 | sl =>
  rename_i c f
  simp only [vrep, drep] at h
  obtain ⟨ad, cap, cs, e1, e2, e3, e4, e5, _, _, e7, e8⟩ := h
  have hcs := Jf e8
  subst hcs
  simp only [execOp, e1, Sem.run_bind, List.length_map]
  cases ad with
  | none =>
   have hz : b = [] := by
    have := e5 rfl
    rw [List.length_map] at e2
    exact List.length_eq_zero_iff.1 (by omega)
   subst hz
   have := run_convert_bytes_nil w t1 e hE.elem.und hI.und 0 cap t2 hS2.und
   simp only [List.length_nil]
   rw [this]; rfl
  | some ad =>
   have := run_convert_bytes_back (P := P) w t1 t2 e ad cap b hE.elem.und hI.und hS2.und fun j hj => by
    obtain ⟨bk, o, k1, _, k3⟩ := e7 j (vb b[j]) (by simp [hj])
    cases k1
    have he : (⟨bk, o, none⟩ : Addr).add j = ⟨bk, o + j, none⟩ := by unfold Addr.add; split <;> simp_all
    rw [he]; exact k3
   rw [this]; rfl
theorem OQ {t yt ty : TypeId} {x y : Operand} {a b : List UInt8} (hx : Af s x = some (.d (.lit (By a)))) (hy : Af s y = some (.d (.lit (By b)))) : Bq P cx (.binOp .eql t x y yt) ty s (.d (.lit (.bool (decide (a = b))))) := by
 refine FD hx hy fun w => ?_
 simp only [eqGuard, binOp, Sem.run_bind, Sem.run_pure, Op.stringOp]
 have : ((⟨a.toArray⟩ : ByteArray).toList == (⟨b.toArray⟩ : ByteArray).toList) = decide (a = b) := by
  rw [ByteArray.toList_mk, ByteArray.toList_mk, Bool.eq_iff_iff]
  simp
 simp []
 rw [Bool.eq_iff_iff]; simp
theorem UB {t yt ty : TypeId} {x y : Operand} {a b : List UInt8} (hx : Af s x = some (.d (.lit (By a)))) (hy : Af s y = some (.d (.lit (By b)))) : Bq P cx (.binOp .neq t x y yt) ty s (.d (.lit (.bool (decide (a ≠ b))))) := by
 refine FD hx hy fun w => ?_
 simp only [eqGuard, binOp, Sem.run_bind, Sem.run_pure, Op.stringOp]
 have : ((⟨a.toArray⟩ : ByteArray).toList == (⟨b.toArray⟩ : ByteArray).toList) = decide (a = b) := by
  rw [ByteArray.toList_mk, ByteArray.toList_mk, Bool.eq_iff_iff]
  simp
 simp []
 rw [Bool.eq_iff_iff]; simp
theorem P7 {t yt ty : TypeId} {x y : Operand} {a b : List UInt8} (hx : Af s x = some (.d (.lit (By a)))) (hy : Af s y = some (.d (.lit (By b)))) (h : decide (a = b) = true) : Bq P cx (.binOp .eql t x y yt) ty s (.d (.lit (.bool true))) := by
 rw [← h]; exact OQ hx hy
theorem P8 {t yt ty : TypeId} {x y : Operand} {a b : List UInt8} (hx : Af s x = some (.d (.lit (By a)))) (hy : Af s y = some (.d (.lit (By b)))) (h : decide (a = b) = false) : Bq P cx (.binOp .eql t x y yt) ty s (.d (.lit (.bool false))) := by
 rw [← h]; exact OQ hx hy
end

end Go.Proofs.YtbgcjnfhadhjeaaGreat