/- Walks by data and names, part 22: Operations on memory that may be spoilt, and calls. Functions by number: a function's walk, and a call walked where it stands, with no more than its number. -/
import Derived.Test.YtbgcjnfhadhjeaaGreatQk21
import Derived.Test.YtbgcjnfhadhjeaaGreatQk19
import Derived.Test.YtbgcjnfhadhjeaaGreatQk14
import Derived.Test.YtbgcjnfhadhjeaaGreatQk17
namespace Go.Proofs.YtbgcjnfhadhjeaaGreat
set_option maxRecDepth 20000
open Go.RowKit
section
variable {P : Program} {cx : Cx} {s : St} {Q : VE → St → Prop} {ops rest : List Oper} {tm : List (Nat × V)} {st : List E} {nb : Nat}
theorem Xo {t ty e : TypeId} {x : Operand} {ex c f : Bool} {l : List (List D)} {sz by_ : Nat} [hE : EQ P t e sz by_] (hx : Af s x = some (.po ex (.sl c f l))) : Bq P cx (.call { callee := .builtin .len, args := #[x], argTypes := #[t] }) ty s (I .i64 (l.length : Int)) := fun g a w hS => by
 have h1 := hS.eval hx
 simp only [vrep] at h1
 obtain ⟨y, hy, h1⟩ := h1
 obtain ⟨m, rfl, hm, _⟩ := LQ hy
 simp only [drep] at h1
 obtain ⟨ad, cap, cs, h, _⟩ := h1
 rw [FL hm] at h
 refine ⟨.int .i64 l.length, ?_, by simp only [vrep, drep]⟩
 simp [execOp, resolve, invoke, builtin, Builtin.len_, h, run_underlying hE.elem.und w, goInt]
theorem Xp {t ty e : TypeId} {x y : Operand} {k : IntKind} {i : Int} {ex c f : Bool} {l : List (List D)} {sz by_ : Nat} {cs : List D} [hE : EQ P t e sz by_] (hx : Af s x = some (.po ex (.sl c f l))) (hy : Af s y = some (I k i)) (h0 : 0 ≤ i) (hl : l[i.toNat]? = some cs) (hc : cs.length = sz) :
  Bq P cx (.indexAddr t x y) ty s (.po ex (.pt cs)) := fun g a w hS => by
 have h1 := hS.eval hx
 have h2 := hS.eval hy
 simp only [vrep] at h1
 obtain ⟨y', hy', h1⟩ := h1
 obtain ⟨m, rfl, hm, hme⟩ := LQ hy'
 obtain ⟨cs', hl', hcs⟩ := J7 hm hl
 simp only [vrep, drep] at h1 h2
 obtain ⟨ad, cap, us, h1, e2, e3, e4, e5, ⟨sz', e6⟩, e0, e7, e8⟩ := h1
 have hlt := (List.getElem?_eq_some_iff.1 hl').1
 have hc' : cs'.length = sz := (GQ hcs).trans hc
 obtain rfl : sz' = sz := by rw [← hc']; exact (e6 cs' (List.mem_of_getElem? hl')).symm
 have hpos := hE.elem.pos
 have hd := GN e6 e8 hl'
 have hulen := Dc e6 e8
 have hd' : ∃ u, us[i.toNat * sz']? = some u := by
  have : i.toNat * sz' < us.length := by rw [hulen]; exact (Nat.mul_lt_mul_right hpos).2 hlt
  exact ⟨us[i.toNat * sz'], List.getElem?_eq_getElem this⟩
 obtain ⟨u0, hu0⟩ := hd'
 obtain ⟨b, o, rfl, _, _⟩ := e7 _ u0 hu0
 have hadd : (⟨b, o, none⟩ : Addr).add (i.toNat * sz') = ⟨b, o + i.toNat * sz', none⟩ := by unfold Addr.add; split <;> simp_all
 refine ⟨.pointer (some ⟨b, o + i.toNat * sz', none⟩), ?_, ?_⟩
 ·have hi : (i < (m.length : Int)) := by omega
  simp [execOp, h1, h2, Instr.indexAt, asIntOf, run_underlying hE.elem.und w, Cv hE.elem, h0, hi, hadd]
 ·simp only [vrep]
  refine ⟨.pt cs', LR (by simp only [AX]; exact ⟨cs', rfl, hcs⟩) (fun he => by have := hme he; subst this; rw [hl] at hl'; cases hl'; rfl), ?_⟩
  simp only [drep]
  refine ⟨b, o + i.toNat * sz', _, rfl, fun j u hj => ?_, hd⟩
  rw [List.getElem?_take] at hj
  split at hj
  ·rw [List.getElem?_drop] at hj
   obtain ⟨b', o', e, hp, hcell⟩ := e7 _ u hj
   cases e
   exact ⟨b, _, rfl, ⟨hp.1, trivial⟩, by rw [Nat.add_assoc]; exact hcell⟩
  ·cases hj
theorem Uy {t ty : TypeId} {x : Operand} {sz : Nat} {z : List Value} {ex : Bool} {d : D} {l : List D} [hT : BE P t false sz z] (hx : Af s x = some (.po ex (.pt l))) (hl : l[0]? = some d) : Bq P cx (.load t x) ty s (N7 ex d) := fun g a w hS => by
 have h1 := hS.eval hx
 simp only [vrep] at h1
 obtain ⟨y, hy, h1⟩ := h1
 obtain ⟨m, rfl, hm, hme⟩ := HB hy
 obtain ⟨d', hl', hd⟩ := GR hm hl
 simp only [drep] at h1
 obtain ⟨b, o, cs, h1, h2, h3⟩ := h1
 obtain ⟨u, k1, k2⟩ := BU h3 hl'
 obtain ⟨b', o', e, _, hc⟩ := h2 0 u k1
 cases e
 refine ⟨u, ?_, NH (LR hd fun he => by have := hme he; subst this; rw [hl] at hl'; cases hl'; rfl) k2⟩
 have := Ce (P := P) (t := t) (sz := sz) (z := z) (w := w) (a := ⟨b, o, none⟩) (u := u) hc
 simp [execOp, h1, Instr.loadAt, Instr.sureAddr, this]
theorem So {t ty : TypeId} {x : Operand} {sz : Nat} {z : List Value} {ex : Bool} {l : List D} [hT : BE P t true sz z] (hx : Af s x = some (.po ex (.pt l))) (hl : l.length = sz) : Bq P cx (.load t x) ty s (.agg (IW ex l)) := fun g a w hS => by
 have h1 := hS.eval hx
 simp only [vrep] at h1
 obtain ⟨y, hy, h1⟩ := h1
 obtain ⟨m, rfl, hm, hme⟩ := HB hy
 simp only [drep] at h1
 obtain ⟨b, o, cs, h1, h2, h3⟩ := h1
 refine ⟨.agg cs.toArray, ?_, ?_⟩
 ·have := Cs (P := P) (t := t) (sz := sz) (z := z) (w := w) (b := b) (o := o) (us := cs) (by rw [Bx h3, GQ hm, hl]) (fun j u hj => by
   obtain ⟨b', o', e, _, hc⟩ := h2 j u hj
   cases e; exact hc)
  simp [execOp, h1, Instr.loadAt, Instr.sureAddr, this]
 ·simp only [vrep]
  refine ⟨cs, rfl, Hn ?_ h3⟩
  cases ex with
  | true => exact .inr ⟨rfl, hme rfl⟩
  | false => exact .inl ⟨rfl, hm⟩
theorem JU {d : Tmp} {op : Op} {ty : TypeId} {pos : String} {af : Array Edge} {gd : Option (Nat × Bool)} {v : V} (k : VL P cx ops rest ⟨(d, v) :: tm, st, nb⟩ Q)
  (h : Bq P cx op ty ⟨tm, st, nb⟩ v := by first | ((with_reducible apply Xo); rfl) | ((with_reducible apply Xp); rfl; rfl; omega; (first | assumption | rfl); (first | rfl | assumption)) | ((with_reducible apply Uy) <;> rfl) | ((with_reducible apply So); rfl; (first | rfl | assumption)))
  (hw : Wd ops tm gd := by first | exact trivial | exact A1 rfl rfl (by with_reducible rfl)) (hd : Nat.blt d cx.N = true := by rfl) (hn : BS op = true := by rfl) : VL P cx ops (⟨some d, op, ty, pos, af, gd⟩ :: rest) ⟨tm, st, nb⟩ Q := Wz h hw hd hn k
theorem FA {d : Tmp} {t ty : TypeId} {pos : String} {af : Array Edge} {gd : Option (Nat × Bool)} {x : Operand} {sz : Nat} {z : List Value} {ex : Bool} {l : List D} {n0 : Int} (k : ∀ n, VL P cx ops rest ⟨(d, I .u8 n) :: tm, st, nb⟩ Q) (hx : Af ⟨tm, st, nb⟩ x = some (.po ex (.pt (.lit (.int .u8 n0) :: l))) := by rfl) [hT : BE P t false sz z]
  (hw : Wd ops tm gd := by first | exact trivial | exact A1 rfl rfl (by with_reducible rfl)) (hd : Nat.blt d cx.N = true := by rfl) : VL P cx ops (⟨some d, .load t x, ty, pos, af, gd⟩ :: rest) ⟨tm, st, nb⟩ Q := fun n g0 w0 g a w hE hS => by
 have h1 := hS.eval hx
 simp only [vrep] at h1
 obtain ⟨y, hy, h1⟩ := h1
 obtain ⟨m, rfl, hm, hme⟩ := HB hy
 obtain ⟨d', hl', hd'⟩ := GR hm (i := 0) rfl
 simp only [drep] at h1
 obtain ⟨b, o, cs, h1, h2, h3⟩ := h1
 obtain ⟨u, k1, k2⟩ := BU h3 hl'
 obtain ⟨b', o', e, _, hc⟩ := h2 0 u k1
 cases e
 simp only [AX] at hd'
 obtain ⟨v', rfl, hd'⟩ := hd'
 simp only [drep] at k2
 subst k2
 obtain ⟨n', rfl⟩ : ∃ n', u = .int .u8 n' := by
  rcases hd' with rfl | ⟨_, hd'⟩
  ·exact ⟨_, rfl⟩
  ·unfold Jq at hd'; split at hd'
   ·exact ⟨_, rfl⟩
   ·cases hd'
 have hrun : (execOp a.eval (IE (.load t x) ty)).run P w = .ok (.value (.int .u8 n')) w := by
  have := Ce (P := P) (t := t) (sz := sz) (z := z) (w := w) (a := ⟨b, o, none⟩) (u := .int .u8 n') hc
  simp [execOp, h1, Instr.loadAt, Instr.sureAddr, this]
 simp only [BH]
 rw [if_pos (Wd.wanted (o := ⟨some d, .load t x, ty, pos, af, gd⟩) hS hw)]
 refine ⟨fun _ _ => trivial, ?_⟩
 rw [Oper.semAt_plain (FW cx.rd) _ _ (by intro c e; cases e), Bn, hrun]
 exact k n' n g0 w0 g _ w hE (hS.put (BZ.refl _ _ _) (Nat.le_of_ble_eq_true hd) hS.st hS.inv (by simp only [vrep, drep]))
theorem Se {g : G} {w : World} {b o : Nat} {rcs : Array Value} {ty : TypeId} {u v : Value} (hb : w.heap[b]? = some (.cells rcs ty (0, 0))) (hu : rcs[o]? = some u) (h8 : Jq u = true) (h8' : Jq v = true) (hp : g.pl b) : CE g w (w.setRow b (rcs.toList.take o ++ [v] ++ rcs.toList.drop (o + 1)).toArray) := by
 have hg := Cj w b (rcs.toList.take o ++ [v] ++ rcs.toList.drop (o + 1)).toArray
 have hlt := (Array.getElem?_eq_some_iff.1 hu).1
 refine ⟨hg.os, hg.tape, hg.output, hg.size, fun c hc hn => hg.block c hc fun e => by cases e; exact hn hp, fun c hc hlt2 => ?_⟩
 by_cases e : c = b
 ·subst e
  rw [setRow_heap w c rcs _ ty (0, 0) hb, hb]
  refine .inr ⟨rcs, _, ty, (0, 0), rfl, rfl, by simp; omega, fun i x hx => ?_⟩
  rw [List.getElem?_toArray]
  by_cases e : i = o
  ·subst e
   rw [hu] at hx; cases hx
   exact ⟨v, by rw [List.append_assoc, List.getElem?_append_right (by simp; omega)]; simp [Nat.min_eq_left (Nat.le_of_lt hlt)], .inr ⟨h8, h8'⟩⟩
  ·refine ⟨x, ?_, .inl rfl⟩
   have hx' : rcs.toList[i]? = some x := by simpa using hx
   rcases Nat.lt_or_ge i o with h | h
   ·rw [List.append_assoc, List.getElem?_append_left (by simp; omega), List.getElem?_take, if_pos h]; exact hx'
   ·rw [List.getElem?_append_right (by simp; omega), List.getElem?_drop]
    rw [show o + 1 + (i - (rcs.toList.take o ++ [v]).length) = i by simp; omega]
    exact hx'
 ·exact .inl (hg.block c hlt2 fun e' => by cases e'; exact e rfl)
theorem EC {t ty : TypeId} {pos : String} {af : Array Edge} {gd : Option (Nat × Bool)} {x y : Operand} {z : List Value} {ex : Bool} {l : List D} {n0 n1 : Int} (k : VL P cx ops rest ⟨D0 tm, Cd st, nb⟩ Q) (hx : Af ⟨tm, st, nb⟩ x = some (.po ex (.pt (.lit (.int .u8 n0) :: l))) := by rfl) (hy : Af ⟨tm, st, nb⟩ y = some (.d (.lit (.int .u8 n1))) := by rfl) [hT : BE P t false 1 z]
  (hsp : cx.M = some cx.B := by rfl) (hdf : cx.df = [] := by rfl) (hw : Wd ops tm gd := by first | exact trivial | exact A1 rfl rfl (by with_reducible rfl)) : VL P cx ops (⟨none, .store t x y, ty, pos, af, gd⟩ :: rest) ⟨tm, st, nb⟩ Q := fun n g0 w0 g a w hE hS => by
 have h1 := hS.eval hx
 have hv := hS.eval hy
 simp only [vrep, drep] at h1 hv
 obtain ⟨y', hy', h1⟩ := h1
 obtain ⟨m, rfl, hm, hme⟩ := HB hy'
 obtain ⟨d', hl', hd'⟩ := GR hm (i := 0) rfl
 simp only [drep] at h1
 obtain ⟨b, o, cs, h1, h2, h3⟩ := h1
 obtain ⟨u, k1, k2⟩ := BU h3 hl'
 obtain ⟨b', o', e, ⟨⟨hp, hunf⟩, _⟩, hc⟩ := h2 0 u k1
 cases e
 simp only [AX] at hd'
 obtain ⟨v', rfl, hd'⟩ := hd'
 simp only [drep] at k2
 subst k2
 have h8 : Jq u = true := by
  rcases hd' with rfl | ⟨_, hd'⟩
  ·rfl
  ·exact hd'
 have hb : ∃ rcs ty', w.heap[b]? = some (.cells rcs ty' (0, 0)) ∧ rcs[o]? = some u := by
  have hc0 := hc
  simp only [World.cell?] at hc
  split at hc
  ·rename_i rcs ty' fz hb
   have := hunf _ _ _ hb
   subst this
   refine ⟨rcs, ty', hb, ?_⟩
   rw [cell_of_row w b _ rcs ty' (0, 0) hb] at hc0
   exact hc0
  ·simp at hc
 obtain ⟨rcs, ty', hb, hu⟩ := hb
 have hlt := (Array.getElem?_eq_some_iff.1 hu).1
 have hcells : (a.eval y).cells.toList = [.int .u8 n1] := by rw [hv]; rfl
 have hrun := GA (P := P) (t := t) (w := w) (b := b) (o := o) (rcs := rcs) (v := a.eval y) hb (by rw [hcells]; rfl) (by omega) (by rw [hcells]; intro u hu; simp at hu; subst hu; rfl)
 rw [hcells] at hrun
 have hsk := Se (g := g) hb hu h8 (v := .int .u8 n1) rfl hp
 simp only [BH]
 rw [if_pos (Wd.wanted (o := ⟨none, .store t x y, ty, pos, af, gd⟩) hS hw)]
 refine ⟨fun _ _ => trivial, ?_⟩
 rw [Oper.semAt_plain (FW cx.rd) _ _ (by intro c e; cases e), Bn]
 have hex : (execOp a.eval (IE (.store t x y) ty)).run P w = .ok .skip (w.setRow b (rcs.toList.take o ++ [Value.int .u8 n1] ++ rcs.toList.drop (o + 1)).toArray) := by
  simp [execOp, h1, Instr.storeAt, Instr.sureAddr, hrun]
 rw [hex]
 exact k n g0 w0 g _ _ (hsk.ext hsp hE hS.inv) (hsk.sim hdf hS)
theorem WA {t : Tmp} {x : Operand} {f : FuncId} {xs : Array Operand} {tys : Array TypeId} {ty : TypeId} {pos : String} {af : Array Edge} {gd : Option (Nat × Bool)} {v : V} {vs az : List V} {ds' ds : List D} {d : D}
  (hc : VP P f ds (· = .ret d)) (hx : Af s x = some v) (hv : AY s xs.toList = some vs) (hf : GL v vs = some (f, az)) (ha : C2 s.st 64 az = some ds') (hd : El ds' ds) (hfl : FV d) (hw : Wd ops s.tm gd) (ht : Nat.blt t cx.N = true)
  (k : VL P cx ops rest ⟨(t, N7 true d) :: s.tm, s.st, s.nb⟩ Q) :
  VL P cx ops (⟨some t, .call { callee := .value x, args := xs, argTypes := tys }, ty, pos, af, gd⟩ :: rest) s Q := fun n g0 w0 g a w hE hS => by
 simp only [BH]
 rw [if_pos (Wd.wanted (o := ⟨some t, _, ty, pos, af, gd⟩) hS hw)]
 refine ⟨fun _ _ => trivial, ?_⟩
 rw [Oper.semAt_plain (FW cx.rd) _ _ (by intro c e; cases e)]
 obtain ⟨zs, hrun, hzs⟩ := EN (P := P) (w := w) (dst := some t) (tys := tys) (ty := ty) (pos := pos) (af := af) (gd := gd) hc.1 hS hx hv hf
 rw [hrun, Oper.uponIn_enter]
 refine ⟨(fun h => by cases h), ?_⟩
 have hargs := hd.le _ w.heap.size _ _ _ (Ci hS.inv hS.st (fun _ _ => trivial) ha hzs)
 have hcall := hc.2 (fun _ => True) w _ hargs
 have hmem : ∀ (r : Ending → World → Prop), Calls P f zs.toArray w r → CallsIn (FW cx.rd) (n - 1) P f zs.toArray w r := fun r h =>
  ⟨trivial, fun cs _ => by
   obtain ⟨e, w', fr, hr, hcm, hx⟩ := h cs
   refine ⟨e, w', fr, hr, ?_, hx⟩
   have := comesIn_wide.2 hcm
   cases e with
   | returned v => exact StepsIn.mono (fun m _ => Bh P cx.rd m) this
   | panicked ch => exact StepsIn.mono (fun m _ => Bh P cx.rd m) this
   | outgrown => exact this⟩
 refine (hmem _ hcall).mono ?_
 rintro e w' ⟨hb, r', rfl, hr⟩
 let g' : G := ⟨fun b => g.ex b ∨ (w.heap.size ≤ b ∧ b < w'.heap.size), g.bx, g.rb, g.rw, fun b => g.pl b ∨ (w.heap.size ≤ b ∧ b < w'.heap.size), fun b h => h.elim (fun h => .inl (g.plex b h)) .inr⟩
 have hprot : ∀ b, b < w.heap.size → g.prot b → g'.prot b := fun b hlt hp => by
  rintro ((ho | ho) | ho)
  ·exact hp (.inl ho)
  ·omega
  ·exact hp (.inr ho)
 have hEv : BZ cx.B g w g' w' := ⟨hb.os, hb.tape, hb.output, hb.size, id, id, fun b hlt hp => ⟨hprot b hlt hp, hb.block b hlt⟩, fun b h => .inl h, fun b h => hb.block b (hS.inv.exlt h), fun b => ⟨.inl, fun hlt h => h.elim id fun h => by omega⟩⟩
 have hst : AC cx.B g' w' s.st := ⟨fun {k o x} hc => by
   obtain ⟨b, rcs, ty, u, m1, m2, m3, m4⟩ := hS.st.cell hc
   exact ⟨b, rcs, ty, u, m1, (hb.block b (hS.inv.bxlt m1).1).trans m2, m3, hEv.vrep m4⟩,
  fun hr => hS.st.keepRow hEv (x := none) ⟨hb.os, hb.tape, hb.output, hb.size, fun b hb' _ => hb.block b hb'⟩ rfl rfl (by simp) hr,
  fun hl => by
   obtain ⟨h1, h2⟩ := hS.st.loop hl
   exact ⟨fun lp e => let ⟨b, m1, m2⟩ := h1 lp e; ⟨b, m1, (hb.block b (hS.inv.bxlt m1).1).trans m2⟩, fun ht => hEv.vrep (h2 ht)⟩⟩
 have hi0 := hS.inv
 have hi : CG cx.B s.nb g' w' := ⟨fun h => ⟨Nat.lt_of_lt_of_le (hi0.bxlt h).1 hb.size, (hi0.bxlt h).2⟩, fun h => ⟨Nat.lt_of_lt_of_le (hi0.rblt h).1 hb.size, (hi0.rblt h).2⟩, hi0.rwlt, hi0.bxinj, hi0.rbinj, hi0.apart,
  fun h => h.elim (fun h => Nat.lt_of_lt_of_le (hi0.exlt h) hb.size) fun h => h.2, fun h he => he.elim (fun he => hi0.exbx h he) fun he => by have := (hi0.bxlt h).1; omega, fun h he => he.elim (fun he => hi0.exrb h he) fun he => by have := (hi0.rblt h).1; omega,
  fun h => h.elim (fun h => hi0.plB h) fun h => Nat.le_trans hi0.base h.1, Nat.le_trans hi0.base hb.size⟩
 obtain ⟨u, rfl, hu⟩ := hr
 have hu' : vrep cx.B g' w' (N7 true d) u := NH (B := cx.B) (g := g') (w := w') (e := true) (y := d) rfl (A4 hS.inv.base (fun b hlt h => ⟨⟨.inr ⟨h.2.1, hlt⟩, h.2.2⟩, rfl⟩) (FV.le (self := hfl) _ _ _ _ hu))
 exact k n g0 w0 g' _ w' (hE.trans hEv) (hS.put hEv (Nat.le_of_ble_eq_true ht) hst hi hu')
def VS (P : Program) (f : FuncId) (ds : List D) : Prop :=
 (∀ args w, (callFunc f args).run P w = .ok (.enter f args) w) ∧ ∀ (p : Nat → Prop) (w : World) (ds' : List D) (us : List Value), A0 ds ds' → dreps 0 (fun b => p b ∧ Pp w b) w ds' us →
  Calls P f us.toArray w fun e w' => e = .returned (.tuple #[]) ∧ w'.os = w.os ∧ w'.tape = w.tape ∧ w'.output = w.output ∧ w.heap.size ≤ w'.heap.size ∧ (∀ b, b < w.heap.size → ¬ p b → w'.heap[b]? = w.heap[b]?) ∧ ∀ b, p b → b < w.heap.size → Gp w.heap[b]? w'.heap[b]?
theorem Abh {P : Program} {f : FuncId} {fn : Func} {c : Code} {ds : List D} (hf : P.funcs[f]? = some fn) (hb : fn.body = some c) {N : Nat} (hN : fn.ntmps = N) (hrs0 : fn.results = #[])
  (h : VW P ⟨N, none, 0, 0, some 0, []⟩ c ⟨CF 0 (IW false ds), [], 0⟩ (Fw P [] (· = .ret (.tup [])))) (hle : Nat.ble (IW false ds).length N = true := by rfl) (hname : (fn.name == "runtime.NumGoroutine") = false := by kernel_rfl) : VS P f ds := by
 refine ⟨Bu hf hname (by rw [hb]; rfl), ?_⟩
 intro p w ds' us hbl hus
 rw [← callsIn_wide (n := 0)]
 refine callsIn_of_wp_marks hf hb trivial ?_
 let g0 : G := ⟨fun b => b < w.heap.size, fun _ => none, fun _ => none, fun _ _ => none, fun b => p b ∧ b < w.heap.size, fun _ h => h.2⟩
 have hI : CG 0 0 g0 w := ⟨fun h => (by cases h), fun h => (by cases h), fun h => (by cases h), fun h => (by cases h), fun h => (by cases h), fun h => (by cases h), fun h => h, fun h => (by cases h), fun h => (by cases h), fun _ => Nat.zero_le _, Nat.zero_le _⟩
 have hv : vreps 0 g0 w (IW false ds) us := Hn (.inl ⟨rfl, hbl⟩) (Ew (Nat.le_refl _) (fun b hlt h => ⟨⟨⟨h.1, hlt⟩, h.2⟩, rfl⟩) hus)
 have hS : Dg ⟨N, none, 0, 0, some 0, []⟩ g0 { tmps := us.toArray ++ Array.replicate (fn.ntmps - us.toArray.size) undef, defers := [] } w ⟨CF 0 (IW false ds), [], 0⟩ := by
  rw [hN]; exact Gr hv hle AC.nil hI ⟨fun m h => (by cases h; exact Nat.zero_le _), [], [], rfl, by simp, by simp, rfl⟩
 refine wpIn_mono (h 0 g0 w g0 _ w (Ei.refl _ _ _ _) hS) ?_
 rintro e a' w' ⟨g', s', e', hE, hS', he, hq⟩
 obtain ⟨_, bs, rr, hds, hnd, hbs0, hrr⟩ := hS'.defers
 have hbs : ∀ b ∈ bs, g'.prot b ∧ w.heap.size ≤ b ∧ w'.heap[b]? = some (.deferred (some [])) := fun b hb => by
  obtain ⟨h1, _, h4⟩ := hbs0 b hb
  exact ⟨h1, Nat.le_of_not_lt fun hlt => h1 (.inl (hE.ex b hlt)), h4⟩
 simp only [Mr] at hrr
 rw [hrr, List.append_nil] at hds
 have hret : (∃ vs, Cr P s' [] vs ∧ ((∃ d, OI s'.st (Dq vs) = some d ∧ R.ret d = .ret (.tup [])) ∨ ∃ k nw ver e sz l, Dq vs = .row k ver ∧ Az k s'.st = some (true, nw, ver, e, sz, l) ∧ R.own e sz l = .ret (.tup []))) →
   LeavesInM Fence.wide 0 P fn a'.tmps (fun e w' => e = .returned (.tuple #[]) ∧ w'.os = w.os ∧ w'.tape = w.tape ∧ w'.output = w.output ∧ w.heap.size ≤ w'.heap.size ∧ (∀ b, b < w.heap.size → ¬ p b → w'.heap[b]? = w.heap[b]?) ∧ ∀ b, p b → b < w.heap.size → Gp w.heap[b]? w'.heap[b]?) a'.defers .returning w' := by
  rintro ⟨vs, hv, hq⟩
  have hvs : vs = [] := by cases hv; rfl
  subst hvs
  rw [hds]
  refine B9 (by simp) bs w' hnd (fun b hb => (hbs b hb).2.2) fun w2 hl => ?_
  obtain ⟨u, h1, h2⟩ := Cr.all (fn := fn) hS' (w2 := w2) (fun b hb => hl.block b fun hm => (hbs b hm).1 hb) (by rw [hrs0]; exact hv)
  simp only [Dq, vrep, vreps] at h2
  obtain ⟨cs, rfl, rfl⟩ := h2
  simp only [LeavesIn]
  refine ⟨_, h1, rfl, hl.os.trans hE.os, hl.tape.trans hE.tape, hl.output.trans hE.output, by rw [hl.size]; exact hE.size, fun b hlt hn => ?_, fun b hp hlt => ?_⟩
  ·rw [hl.block b fun hm => by have := (hbs b hm).2.1; omega]
   exact hE.exblk b hlt fun h => hn h.2.1
  ·rw [hl.block b fun hm => by have := (hbs b hm).2.1; omega]
   exact hE.blur b ⟨hp, hlt⟩ hlt
 cases e' with
 | normal => simp only [BV] at he; subst he; exact hret hq
 | ret => simp only [BV] at he; subst he; exact hret hq
 | panic v => obtain ⟨d, _, hp⟩ := hq; cases hp
 | exit id => exact hq.elim
 | goto l => exact hq.elim
mutual
def Ia : V → Option D
 | .po _ x => some x
 | .d (.lit v) => some (.lit v)
 | .agg l => (match La l with
  | some m => some (.agg m)
  | none => none)
 | _ => none
def La : List V → Option (List D)
 | [] => some []
 | x :: xs => (match Ia x with
  | some y => (match La xs with
   | some ys => some (y :: ys)
   | none => none)
  | none => none)
end
mutual
theorem Ut {B : Nat} {g : G} {w : World} : ∀ {v : V} {d : D} {u : Value}, Ia v = some d → vrep B g w v u → ∃ y, AX d y ∧ drep 0 (fun b => g.pl b ∧ Pp w b) w y u
 | .po e x, d, u, h, k => by
  simp only [Ia, Option.some.injEq] at h; subst h
  simp only [vrep] at k
  obtain ⟨y, hy, k⟩ := k
  exact ⟨y, M6 hy, H5 (Nat.zero_le _) k⟩
 | .d x, d, u, h, k => by
  cases x with
  | lit v =>
   simp only [Ia, Option.some.injEq] at h; subst h
   simp only [vrep, drep] at k; subst k
   exact ⟨.lit u, GS _, by simp only [drep]⟩
  | _ => simp [Ia] at h
 | .agg l, d, u, h, k => by
  simp only [Ia] at h
  split at h
  ·rename_i m hm; cases h
   simp only [vrep] at k
   obtain ⟨cs, rfl, k⟩ := k
   obtain ⟨ys, h1, h2⟩ := Jy hm k
   exact ⟨.agg ys, by simp only [AX]; exact ⟨ys, rfl, h1⟩, by simp only [drep]; exact ⟨cs, rfl, h2⟩⟩
  ·cases h
 | .tup _, _, _, h, _ => by simp [Ia] at h
 | .ptr _ _, _, _, h, _ => by simp [Ia] at h
 | .ep _, _, _, h, _ => by simp [Ia] at h
 | .row _ _, _, _, h, _ => by simp [Ia] at h
 | .rp _ _ _ _ _, _, _, h, _ => by simp [Ia] at h
 | .fn _ _ _, _, _, h, _ => by simp [Ia] at h
 | .ifc _ _, _, _, h, _ => by simp [Ia] at h
 | .sv _ _ _ _ _, _, _, h, _ => by simp [Ia] at h
 | .yl _, _, _, h, _ => by simp [Ia] at h
 | .rv _ _ _, _, _, h, _ => by simp [Ia] at h
theorem Jy {B : Nat} {g : G} {w : World} : ∀ {v : List V} {d : List D} {u : List Value}, La v = some d → vreps B g w v u → ∃ y, A0 d y ∧ dreps 0 (fun b => g.pl b ∧ Pp w b) w y u
 | [], d, u, h, k => by
  simp only [La, Option.some.injEq] at h; subst h
  simp only [vreps] at k; subst k
  exact ⟨[], Cy _, by simp only [dreps]⟩
 | x :: xs, d, u, h, k => by
  simp only [La] at h
  split at h
  ·rename_i y hy
   split at h
   ·rename_i ys hys; cases h
    simp only [vreps] at k
    obtain ⟨c, cs, rfl, k1, k2⟩ := k
    obtain ⟨z, h1, h2⟩ := Ut hy k1
    obtain ⟨zs, h3, h4⟩ := Jy hys k2
    exact ⟨z :: zs, by simp only [A0]; exact ⟨z, zs, rfl, h1, h3⟩, by simp only [dreps]; exact ⟨c, cs, rfl, h2, h4⟩⟩
   ·cases h
  ·cases h
end
theorem Te {t : Tmp} {x : Operand} {f : FuncId} {xs : Array Operand} {tys : Array TypeId} {ty : TypeId} {pos : String} {af : Array Edge} {gd : Option (Nat × Bool)} {v : V} {vs az : List V} {ds : List D}
  (hc : VS P f ds) (hx : Af s x = some v) (hv : AY s xs.toList = some vs) (hf : GL v vs = some (f, az)) (ha : La az = some ds) (hw : Wd ops s.tm gd) (ht : Nat.blt t cx.N = true) (hsp : cx.M = some cx.B) (hdf : cx.df = [])
  (k : VL P cx ops rest ⟨(t, .d (.tup [])) :: D0 s.tm, Cd s.st, s.nb⟩ Q) :
  VL P cx ops (⟨some t, .call { callee := .value x, args := xs, argTypes := tys }, ty, pos, af, gd⟩ :: rest) s Q := fun n g0 w0 g a w hE hS => by
 simp only [BH]
 rw [if_pos (Wd.wanted (o := ⟨some t, _, ty, pos, af, gd⟩) hS hw)]
 refine ⟨fun _ _ => trivial, ?_⟩
 rw [Oper.semAt_plain (FW cx.rd) _ _ (by intro c e; cases e)]
 obtain ⟨zs, hrun, hzs⟩ := EN (P := P) (w := w) (dst := some t) (tys := tys) (ty := ty) (pos := pos) (af := af) (gd := gd) hc.1 hS hx hv hf
 rw [hrun, Oper.uponIn_enter]
 refine ⟨(fun h => by cases h), ?_⟩
 obtain ⟨ds', hbl, hargs⟩ := Jy ha hzs
 have hcall := hc.2 g.pl w ds' _ hbl hargs
 have hmem : ∀ (r : Ending → World → Prop), Calls P f zs.toArray w r → CallsIn (FW cx.rd) (n - 1) P f zs.toArray w r := fun r h =>
  ⟨trivial, fun cs _ => by
   obtain ⟨e, w', fr, hr, hcm, hx⟩ := h cs
   refine ⟨e, w', fr, hr, ?_, hx⟩
   have := comesIn_wide.2 hcm
   cases e with
   | returned v => exact StepsIn.mono (fun m _ => Bh P cx.rd m) this
   | panicked ch => exact StepsIn.mono (fun m _ => Bh P cx.rd m) this
   | outgrown => exact this⟩
 refine (hmem _ hcall).mono ?_
 rintro e w' ⟨rfl, h1, h2, h3, h4, h5, h6⟩
 have hsk : CE g w w' := ⟨h1, h2, h3, h4, h5, h6⟩
 have hS' := hsk.sim hdf hS
 exact k n g0 w0 g _ w' (hsk.ext hsp hE hS.inv) (hS'.put (BZ.refl _ _ _) (Nat.le_of_ble_eq_true ht) hS'.st hS'.inv (by simp only [vrep, drep, dreps]; exact ⟨[], rfl, rfl⟩))
theorem QA {t : Tmp} {x : Operand} {f : FuncId} {xs : Array Operand} {tys : Array TypeId} {ty : TypeId} {pos : String} {af : Array Edge} {gd : Option (Nat × Bool)} {v : V} {vs az : List V} {ds' ds : List D} {d : D}
  (hc : VP P f ds (· = .ret d)) (k : VL P cx ops rest ⟨(t, N7 true d) :: tm, st, nb⟩ Q)
  (hx : Af ⟨tm, st, nb⟩ x = some v := by rfl) (hv : AY ⟨tm, st, nb⟩ xs.toList = some vs := by rfl) (hf : GL v vs = some (f, az) := by rfl) (ha : C2 st 64 az = some ds' := by rfl) (hd : El ds' ds := by ((repeat' (first | exact Dj | with_reducible apply CN | with_reducible exact Ex _ | with_reducible exact Gk _ | infer_instance | with_reducible apply Ez | with_reducible apply Ey | with_reducible apply Gj | with_reducible apply Gl | with_reducible apply BN | assumption | apply BN)); fail_if_success (focus skip))) (hfl : FV d := by infer_instance) (hw : Wd ops tm gd := by first | exact trivial | exact A1 rfl rfl (by with_reducible rfl)) (ht : Nat.blt t cx.N = true := by rfl) :
  VL P cx ops (⟨some t, .call { callee := .value x, args := xs, argTypes := tys }, ty, pos, af, gd⟩ :: rest) ⟨tm, st, nb⟩ Q := WA hc hx hv hf ha hd hfl hw ht k
theorem Od {t : Tmp} {x : Operand} {f : FuncId} {xs : Array Operand} {tys : Array TypeId} {ty : TypeId} {pos : String} {af : Array Edge} {gd : Option (Nat × Bool)} {v : V} {vs az : List V} {ds : List D}
  (hc : VS P f ds) (k : VL P cx ops rest ⟨(t, .d (.tup [])) :: D0 tm, Cd st, nb⟩ Q)
  (hx : Af ⟨tm, st, nb⟩ x = some v := by rfl) (hv : AY ⟨tm, st, nb⟩ xs.toList = some vs := by rfl) (hf : GL v vs = some (f, az) := by rfl) (ha : La az = some ds := by rfl) (hw : Wd ops tm gd := by first | exact trivial | exact A1 rfl rfl (by with_reducible rfl)) (ht : Nat.blt t cx.N = true := by rfl) (hsp : cx.M = some cx.B := by rfl) (hdf : cx.df = [] := by rfl) :
  VL P cx ops (⟨some t, .call { callee := .value x, args := xs, argTypes := tys }, ty, pos, af, gd⟩ :: rest) ⟨tm, st, nb⟩ Q := Te hc hx hv hf ha hw ht hsp hdf k
end

class Fc (P : Program) (f : FuncId) (fn : outParam Func) (N : outParam Nat) (rs : outParam (List ResultVar)) : Prop where
 get : P.funcs[f]? = some fn
 tmps : fn.ntmps = N
 res : fn.results = rs.toArray
section
variable {P : Program} {f : FuncId} {fn : Func} {N : Nat} {rs : List ResultVar} {c : Code}
theorem Al [h : Fc P f fn N rs] {ds : List D} {post : R → Prop} (k : ∀ B, VW P ⟨N, none, B, 0, some B, []⟩ c ⟨CF 0 (ds.map .d), [], 0⟩ (Fw P rs post)) (hb : fn.body = some c := by rfl) (hle : Nat.ble ds.length N = true := by rfl) (hn : (fn.name == "runtime.NumGoroutine") = false := by kernel_rfl) : VP P f ds post := Abi h.get hb h.tmps hle h.res k hn
theorem CI [h : Fc P f fn N rs] {B m : Nat} {vs : List V} {st : List E} {nb : Nat} {K : RC → List E → Nat → Prop} (k : ∀ M, VW P ⟨N, none, B, m, some M, []⟩ c ⟨CF 0 vs, st, nb⟩ (Hl P rs (mK m K))) (hb : fn.body = some c := by rfl) (hle : Nat.ble vs.length N = true := by rfl) (hn : (fn.name == "runtime.NumGoroutine") = false := by kernel_rfl) : SP P f B m vs st nb K := Pz h.get hb h.tmps h.res k hle hn
theorem Abk [h : Fc P f fn N rs] {m : Nat} {vs : List V} {st : List E} {nb : Nat} {K : RC → List E → Nat → Prop} (k : ∀ B M, VW P ⟨N, none, B, m, some M, []⟩ c ⟨CF 0 vs, st, nb⟩ (Hl P rs (mK m K))) (hb : fn.body = some c := by rfl) (hle : Nat.ble vs.length N = true := by rfl) (hn : (fn.name == "runtime.NumGoroutine") = false := by kernel_rfl) : VM P f m vs st nb K := Abj h.get hb h.tmps h.res k hle hn
theorem AH [h : Fc P f fn N rs] {m : Nat} {vs : List V} {st : List E} {nb nb' : Nat} {r : RC} {st' : List E} (k : ∀ B M, VW P ⟨N, none, B, m, some M, []⟩ c ⟨CF 0 vs, st, nb⟩ (Hl P rs (mK m (Gy m r st' nb')))) (hb : fn.body = some c := by rfl) (hle : Nat.ble vs.length N = true := by rfl) (hn : (fn.name == "runtime.NumGoroutine") = false := by kernel_rfl) : Dk P f m vs st nb r st' nb' := Zg h.get hb h.tmps h.res k hle hn
theorem Ae (f : FuncId) {fn : Func} {N : Nat} {rs : List ResultVar} {c : Code} {cx : Cx} {ops rest : List Oper} {Q : VE → St → Prop} {t : Tmp} {x : Operand} {xs : Array Operand} {tys : Array TypeId} {ty : TypeId} {pos : String} {af : Array Edge} {gd : Option (Nat × Bool)} {v : V} {vs az : List V} {tm : List (Nat × V)} {st : List E} {nb : Nat} [h : Fc P f fn N rs]
  (k : ∀ M, VW P ⟨N, none, cx.B, nb, some M, []⟩ c ⟨CF 0 az, st, nb⟩ (Hl P rs (LH P cx ops rest t tm Q))) (hx : Af ⟨tm, st, nb⟩ x = some v := by rfl) (hv : AY ⟨tm, st, nb⟩ xs.toList = some vs := by rfl) (hf : GL v vs = some (f, az) := by rfl) (hb : fn.body = some c := by rfl) (hle : Nat.ble az.length N = true := by rfl) (hn : (fn.name == "runtime.NumGoroutine") = false := by kernel_rfl)
  (hw : Wd ops tm gd := by first | exact trivial | exact A1 rfl rfl (by with_reducible rfl)) (ht : Nat.blt t cx.N = true := by rfl) :
  VL P cx ops (⟨some t, .call { callee := .value x, args := xs, argTypes := tys }, ty, pos, af, gd⟩ :: rest) ⟨tm, st, nb⟩ Q := BI hx hv hf (Yr h.get hb h.tmps h.res k hle hn) hw ht
end

end Go.Proofs.YtbgcjnfhadhjeaaGreat