/- Walks by data and names, part 20: Is a slice nil? A walk goes on with either answer that its length allows. Calls whose arguments are lent, in regions that draw their order. -/
import Derived.Test.YtbgcjnfhadhjeaaGreatQk19
namespace Go.Proofs.YtbgcjnfhadhjeaaGreat
set_option maxRecDepth 20000
open Go.RowKit
inductive Ps (st : List E) : V → Nat → Prop where
 | sl {c f : Bool} {l : List (List D)} : Ps st (.d (.sl c f l)) l.length
 | row {k ver : Nat} {o nw : Bool} {v : Nat} {e : TypeId} {sz : Nat} {l : List (List D)} (h : Az k st = some (o, nw, v, e, sz, l)) (hv : Nat.beq ver v = true) : Ps st (.row k ver) l.length
theorem Ps.rep {B : Nat} {g : G} {w : World} {st : List E} (hs : AC B g w st) {v : V} {n : Nat} (h : Ps st v n) {u : Value} (hu : vrep B g w v u) : ∃ a m c, u = .slice a m c ∧ (a = none → n = 0) := by
 cases h with
 | sl =>
  simp only [vrep, drep] at hu
  obtain ⟨a, cap, cs, e1, e2, e3, e4, e5, e6, e0, e7, e8⟩ := hu
  exact ⟨a, _, cap, e1, fun h => by have := e5 h; omega⟩
 | row h hv =>
  have := Nat.eq_of_beq_eq_true hv
  subst this
  obtain ⟨v, xs, h1, h2, h3, hn, h4⟩ := hs.row h
  simp only [vrep] at hu
  rw [h1] at hu; obtain ⟨e, _⟩ := hu; cases e
  rcases h4 with ⟨_, h4, h5⟩ | ⟨_, h4, h5⟩
  ·rcases h4.2 with ⟨rfl, h6⟩ | ⟨b, cap, cur, rfl, _⟩
   ·exact ⟨none, 0, 0, rfl, fun _ => h6⟩
   ·exact ⟨_, _, _, rfl, fun h => by cases h⟩
  ·simp only [drep] at h5
   obtain ⟨a, cap, cs, e1, e2, e3, e4, e5, e6, e0, e7, e8⟩ := h5
   exact ⟨a, _, cap, e1, fun h => by have := e5 h; omega⟩
theorem Jw {P : Program} {w : World} (d : Nat) {t e : TypeId} {sz bt : Nat} [hT : EQ P t e sz bt] {a : Option Addr} {m c : Nat} : (Op.equalIn (d + 1) t (.slice a m c) (.slice none 0 0)).run P w = .ok a.isNone w := by
 have hu := hT.elem.und
 cases a <;> simp [Op.equalIn, run_underlying hu]
theorem Hi {P : Program} {w : World} {t e : TypeId} {sz bt : Nat} [hT : EQ P t e sz bt] {a : Option Addr} {m c : Nat} : (Op.equal t (.slice a m c) (.slice none 0 0)).run P w = .ok a.isNone w := Jw 9999
section
variable {P : Program} {cx : Cx} {tm : List (Nat × V)} {st : List E} {nb : Nat} {Q : VE → St → Prop} {ops rest : List Oper}
theorem S5 {d : Tmp} {t e yt ty : TypeId} {sz bt : Nat} {x : Operand} {v : V} {n : Nat} {pos : String} {af : Array Edge} [hT : EQ P t e sz bt] (k : ∀ b : Bool, (b = true → n = 0) → VL P cx ops rest ⟨(d, .d (.lit (.bool b))) :: tm, st, nb⟩ Q)
  (hx : Af ⟨tm, st, nb⟩ x = some v := by rfl) (hv : Ps st v n := by first | exact .sl | exact .row rfl rfl) (hd : Nat.blt d cx.N = true := by rfl) :
  VL P cx ops (⟨some d, .binOp .eql t x (.const (.slice none 0 0)) yt, ty, pos, af, none⟩ :: rest) ⟨tm, st, nb⟩ Q := fun m g0 w0 g a w hE hS => by
 obtain ⟨ad, m1, c1, he, hn⟩ := Ps.rep hS.st hv (hS.eval hx)
 simp only [BH]
 rw [if_pos (Wd.wanted (o := ⟨some d, _, ty, pos, af, none⟩) hS trivial)]
 refine ⟨fun _ _ => trivial, ?_⟩
 have hrun : (execOp a.eval (IE (.binOp .eql t x (.const (.slice none 0 0)) yt) ty)).run P w = .ok (.value (.bool ad.isNone)) w := by
  have h2 := Hi (P := P) (w := w) (t := t) (e := e) (sz := sz) (bt := bt) (a := ad) (m := m1) (c := c1)
  simp [execOp, he, show a.eval (.const (.slice none 0 0)) = .slice none 0 0 from rfl, eqGuard, binOp, h2]
 rw [Oper.semAt_plain (FW cx.rd) _ _ (by intro c e; simp only at e; cases e), Bn, hrun]
 refine k ad.isNone (fun h => hn (by simpa using h)) m g0 w0 g _ w hE (hS.put (BZ.refl _ _ _) (Nat.le_of_ble_eq_true hd) hS.st hS.inv (by simp only [vrep, drep]))
theorem S3 {d : Tmp} {t e yt ty : TypeId} {sz bt : Nat} {x : Operand} {v : V} {n : Nat} {pos : String} {af : Array Edge} [hT : EQ P t e sz bt] (k : ∀ b : Bool, (b = false → n = 0) → VL P cx ops rest ⟨(d, .d (.lit (.bool b))) :: tm, st, nb⟩ Q)
  (hx : Af ⟨tm, st, nb⟩ x = some v := by rfl) (hv : Ps st v n := by first | exact .sl | exact .row rfl rfl) (hd : Nat.blt d cx.N = true := by rfl) :
  VL P cx ops (⟨some d, .binOp .neq t x (.const (.slice none 0 0)) yt, ty, pos, af, none⟩ :: rest) ⟨tm, st, nb⟩ Q := fun m g0 w0 g a w hE hS => by
 obtain ⟨ad, m1, c1, he, hn⟩ := Ps.rep hS.st hv (hS.eval hx)
 simp only [BH]
 rw [if_pos (Wd.wanted (o := ⟨some d, _, ty, pos, af, none⟩) hS trivial)]
 refine ⟨fun _ _ => trivial, ?_⟩
 have hrun : (execOp a.eval (IE (.binOp .neq t x (.const (.slice none 0 0)) yt) ty)).run P w = .ok (.value (.bool (!ad.isNone))) w := by
  have h2 := Hi (P := P) (w := w) (t := t) (e := e) (sz := sz) (bt := bt) (a := ad) (m := m1) (c := c1)
  simp [execOp, he, show a.eval (.const (.slice none 0 0)) = .slice none 0 0 from rfl, eqGuard, binOp, h2]
 rw [Oper.semAt_plain (FW cx.rd) _ _ (by intro c e; simp only at e; cases e), Bn, hrun]
 refine k (!ad.isNone) (fun h => hn (by simpa using h)) m g0 w0 g _ w hE (hS.put (BZ.refl _ _ _) (Nat.le_of_ble_eq_true hd) hS.st hS.inv (by simp only [vrep, drep]))
theorem Uu {t ty e : TypeId} {sz by_ k : Nat} {tm : List (Nat × V)} {st : List E} [hE : EQ P t e sz by_] : Qs P cx (.buildSlice t 0 #[]) ty tm st (.row k 0) k (.r true true k 0 e sz []) := fun nb g a w hk hf hS => by
 obtain ⟨i, z, q1, q2, q3, q4, q5⟩ := hE.elem.info
 have hrun : (Instr.buildSlice t 0 #[]).run P w = .ok (.slice (some ⟨w.heap.size, 0, none⟩) 0 0) (w.alloc (.cells #[] e)) := by
  simp [Instr.buildSlice, run_underlying hE.elem.und, sizeOf, typeInfo, q1, newRow, Instr.fill, show Array.range 0 = #[] from rfl]
 have hown : (w.alloc (.cells #[] e)).ownsRow w.heap.size e sz (.slice (some ⟨w.heap.size, 0, none⟩) 0 0) ([] : List (List D)).length [] :=
  ⟨by simp, .inr ⟨w.heap.size, 0, #[], rfl, Nat.le_refl _, heap_alloc_new w _, Nat.le_refl _, by unfold maxLen; omega, by simp, by simp⟩⟩
 obtain ⟨m1, m2, m3, m4⟩ := Ea hS.inv hf hk (w' := w.alloc (.cells #[] e)) ⟨rfl, rfl, rfl, by simp, fun k hk => Below.heap_alloc w _ k hk⟩ (e := e) (sz := sz) (l := []) (xs := []) (by simp only [drepss]) ⟨by simp, by simp⟩ hown
 exact ⟨_, _, _, by simp [execOp, hrun], m1, m2, m3, m4⟩
theorem Ze {d : Tmp} {t e ty : TypeId} {sz by_ : Nat} {pos : String} {af : Array Edge} {gd : Option (Nat × Bool)} [hE : EQ P t e sz by_] (k : VL P cx ops rest ⟨(d, .row nb 0) :: tm, .r true true nb 0 e sz [] :: st, nb + 1⟩ Q)
  (hw : Wd ops tm gd := by first | exact trivial | exact A1 rfl rfl (by with_reducible rfl)) (hd : Nat.blt d cx.N = true := by rfl) : VL P cx ops (⟨some d, .buildSlice t 0 #[], ty, pos, af, gd⟩ :: rest) ⟨tm, st, nb⟩ Q :=
 H7 k (TM (h := Uu) (hw := hw) (hd := hd))
end

section
variable {P : Program} {cx : Cx}
theorem VZ {n nb : Nat} {g : G} {a : Act} {w : World} {tm : List (Nat × V)} {st : List E} {x : Operand} {f : FuncId} {xs : Array Operand} {tys : Array TypeId} {ty : TypeId} {pos : String} {af : Array Edge} {gd : Option (Nat × Bool)} {dst : Option Tmp} {v : V} {vs az : List V} {ds' ds : List D} {post : R → Prop} {K : Act → World → Prop} {Qx : Exit → Act → World → Prop}
  (hx : Af ⟨tm, st, nb⟩ x = some v) (hv : AY ⟨tm, st, nb⟩ xs.toList = some vs) (hf : GL v vs = some (f, az)) (ha : C2 st 64 az = some ds') (hd : El ds' ds) (hc : VP P f ds post) (hS : Dg cx g a w ⟨tm, st, nb⟩)
  (hK : ∀ e w' r, Below w.heap.size w w' → post r → PL w.heap.size (fun b => True ∨ w.heap.size ≤ b) w' r e → match e with
   | .returned v => K (a.put dst v) w'
   | .panicked ch => Qx (.panic ch) a w'
   | .outgrown => False) : (⟨dst, .call { callee := .value x, args := xs, argTypes := tys }, ty, pos, af, gd⟩ : Oper).wpIn (FW cx.rd) n P a w K Qx := by
 refine ⟨fun _ _ => trivial, ?_⟩
 rw [Oper.semAt_plain (FW cx.rd) _ _ (by intro c e; cases e)]
 obtain ⟨zs, hrun, hzs⟩ := EN (P := P) (w := w) (dst := dst) (tys := tys) (ty := ty) (pos := pos) (af := af) (gd := gd) hc.1 hS hx hv hf
 rw [hrun, Oper.uponIn_enter]
 refine ⟨(fun h => by cases h), ?_⟩
 have hargs := hd.le _ w.heap.size _ _ _ (Ci hS.inv hS.st (fun _ _ => trivial) ha hzs)
 have hcall := hc.2 (fun _ => True) w _ hargs
 have hmem : ∀ (r : Ending → World → Prop), Calls P f zs.toArray w r → CallsIn (FW cx.rd) (n - 1) P f zs.toArray w r := fun r h =>
  ⟨trivial, fun cs _ => by
   obtain ⟨e, w', fr, hr, hcm, hx⟩ := h cs
   refine ⟨e, w', fr, hr, ?_, hx⟩
   have := comesIn_wide.2 hcm
   cases e with
   | returned v => exact StepsIn.mono (fun m _ => Bh P cx.rd m) this
   | panicked ch => exact StepsIn.mono (fun m _ => Bh P cx.rd m) this
   | outgrown => exact this⟩
 refine (hmem _ hcall).mono ?_
 rintro e w' ⟨hb, r, hp, hr⟩
 have := hK e w' r hb hp hr
 cases e with
 | returned v => exact this
 | panicked ch => exact this
 | outgrown => exact this.elim
theorem Me.lent {x : Operand} {f : FuncId} {xs : Array Operand} {tys : Array TypeId} {ty : TypeId} {pos : String} {af : Array Edge} {gd : Option (Nat × Bool)} {dst : Option Tmp} {tm : List (Nat × V)} {st : List E} {v : V} {vs az : List V} {ds' ds : List D} {d : D}
  (hc : VP P f ds (· = .ret d)) (hx : Af ⟨tm, st, 0⟩ x = some v) (hv : AY ⟨tm, st, 0⟩ xs.toList = some vs) (hf : GL v vs = some (f, az)) (ha : C2 st 64 az = some ds') (hd : El ds' ds) (hfl : FV d) : Me P cx ⟨dst, .call { callee := .value x, args := xs, argTypes := tys }, ty, pos, af, gd⟩ tm st none (.d d) [] := fun n nb g a w K Qx _ hS hK => by
 refine VZ (hx := by rw [← hx]; exact JK) (hv := by rw [← hv]; exact H3) hf ha hd hc hS fun e w' r hb hp hr => ?_
 subst hp
 obtain ⟨u, rfl, hu⟩ := hr
 refine hK u g w' ⟨BZ.of_below hS.inv hb, fun b hb' => hb.block b hb', fun _ _ => ⟨rfl, rfl, rfl⟩⟩ AC.nil (hS.inv.evo hb.size) ?_
 simp only [vrep]
 exact A4 hS.inv.base (fun b _ h => ⟨IV hS.inv b (.inr h.2.1), rfl⟩) (FV.le (self := hfl) _ _ _ _ hu)
end
section
variable {P : Program} {cx : Cx} {Q : VE → St → Prop} {l : List Oper} {tm0 : List (Nat × V)} {AO stO : List E} {nb0 : Nat} {ds : List Nat} {hd tl : List Oper} {i : Nat} {acc : List Ac} {tm : List (Nat × V)} {st : List E} {nb : Nat} {gd : Option (Nat × Bool)}
theorem QJ {d : Tmp} {x : Operand} {f : FuncId} {xs : Array Operand} {tys : Array TypeId} {ty : TypeId} {pos : String} {af : Array Edge} {fv : V} {vs az : List V} {ds1 ds2 : List D} {v : D} {vis : List E} {tmI : List (Nat × V)}
  (hc : VP P f ds2 (· = .ret v)) (k : VD P cx l tm0 AO stO nb0 ds Q hd tl (i + 1) (⟨i, d, .d v, [], vis, none, none, [], none⟩ :: acc) ((d, .d v) :: tm) st nb)
  (hsel : ED af.toList ds acc tm0 (gT l ⟨some d, .call { callee := .value x, args := xs, argTypes := tys }, ty, pos, af, gd⟩ ++ Ct (Op.call { callee := .value x, args := xs, argTypes := tys }).operands.toList) = some tmI := by rfl) (hvis : E3 acc af.toList = some vis := by rfl) (hw : Wd l tmI gd := by first | exact trivial | exact A1 rfl rfl (by with_reducible rfl))
  (hx : Af ⟨tmI, vis ++ AO, 0⟩ x = some fv := by rfl) (hv : AY ⟨tmI, vis ++ AO, 0⟩ xs.toList = some vs := by rfl) (hf : GL fv vs = some (f, az) := by rfl) (ha : C2 (vis ++ AO) 64 az = some ds1 := by rfl) (hdl : El ds1 ds2 := by ((repeat' (first | exact Dj | with_reducible apply CN | with_reducible exact Ex _ | with_reducible exact Gk _ | infer_instance | with_reducible apply Ez | with_reducible apply Ey | with_reducible apply Gj | with_reducible apply Gl | with_reducible apply BN | assumption | apply BN)); fail_if_success (focus skip))) (hfl : FV v := by infer_instance)
  (hd' : Nat.blt d cx.N = true := by rfl) (hds : C5 d ds = true := by rfl) (hfa : CM d acc = none := by rfl) : VD P cx l tm0 AO stO nb0 ds Q (⟨some d, .call { callee := .value x, args := xs, argTypes := tys }, ty, pos, af, gd⟩ :: hd) tl i acc tm st nb :=
 EA k (.inl ⟨rfl, Nat.le_of_ble_eq_true hd'⟩) hds hfa hsel hvis (Px.of hw (Me.lent hc hx hv hf ha hdl hfl)) (.inl ⟨rfl, rfl, rfl⟩) (.inl rfl) rfl (.inl rfl)
end
class KE (x y : List D) : Prop where
 h : x.length = y.length
instance : KE [] [] := ⟨rfl⟩
instance {a b : D} {x y : List D} [h : KE x y] : KE (a :: x) (b :: y) := ⟨by simp [h.h]⟩
instance {x y : List D} {xs ys : List (List D)} [h : El x y] [hl : KE x y] [hs : CO xs ys] : CO (x :: xs) (y :: ys) := ⟨fun B B' U w u k => by
 simp only [drepss] at k ⊢
 obtain ⟨c1, c2, e, k1, k2⟩ := k
 exact ⟨c1, c2, e, h.le _ _ _ _ _ k1, hs.le _ _ _ _ _ k2⟩, by simp [hs.len], fun n hn c hc => by
 rcases List.mem_cons.1 hc with rfl | hc
 ·rw [← hl.h]; exact hn _ (by simp)
 ·exact hs.sz n (fun c hc => hn c (by simp [hc])) c hc⟩
def Vh : List D → Option (List D)
 | [] => some []
 | a :: l => match Vh l with
  | some r => some (a :: r)
  | none => none
def nrm : List (List D) → Option (List (List D))
 | [] => some []
 | x :: xs => match Vh x with
  | some y => (match nrm xs with
   | some ys => some (y :: ys)
   | none => none)
  | none => none
theorem Ru : ∀ {l r : List D}, Vh l = some r → l = r
 | [], r, h => by simp only [Vh, Option.some.injEq] at h; exact h
 | a :: l, r, h => by
  simp only [Vh] at h
  split at h
  ·rename_i q hq; cases h; rw [Ru hq]
  ·cases h
theorem Qe : ∀ {l r : List (List D)}, nrm l = some r → l = r
 | [], r, h => by simp only [nrm, Option.some.injEq] at h; exact h
 | x :: xs, r, h => by
  simp only [nrm] at h
  split at h
  ·rename_i q hq
   split at h
   ·rename_i q2 hq2; cases h; rw [Ru hq, Qe hq2]
   ·cases h
  ·cases h
section
variable {P : Program} {cx : Cx}
theorem AC.below {B nb : Nat} {g : G} {w w' : World} {st : List E} (hs : AC B g w st) (hi : CG B nb g w) (hb : Below w.heap.size w w') : AC B g w' st :=
 AC.newO (k := none) ⟨BZ.of_below hi hb, fun b h => hb.block b h, fun _ _ => ⟨rfl, rfl, rfl⟩⟩ hi (fun _ h => by cases h) hs
theorem Q0 {s : St} {g : G} {a : Act} {w : World} (hS : Dg cx g a w s) {t ty e : TypeId} {n : Nat} {parts : Array (Nat × Operand)} {sz by_ : Nat} {es : List (List D)} [hE : EQ P t e sz by_] (hp : Ed s sz 0 parts.toList = some es) (hn : parts.size = n) (hn0 : Nat.ble 1 n = true) (hsm : Nat.ble (n * sz) 16777216 = true) :
  ∃ u w', (execOp a.eval (IE (.buildSlice t n parts) ty)).run P w = .ok (.value u) w' ∧ Below w.heap.size w w' ∧ drep cx.B g.prot w' (.sl false true es) u := by
 obtain ⟨h1, h2, h3, h4, h5, h6⟩ := IA hS hp
 obtain ⟨i, z, q1, q2, q3, q4, q5⟩ := hE.elem.info
 have hpos := hE.elem.pos
 have hn0 := Nat.le_of_ble_eq_true hn0
 have hsm := Nat.le_of_ble_eq_true hsm
 have hlen : (parts.toList.map fun p => a.eval p.2).length = n := by simp [hn]
 obtain ⟨cs', k1, k2⟩ := KW (parts.toList.map fun p => a.eval p.2) 0 ((Array.range (n * sz)).map (z.cells[· % z.cells.size]!)) h5 (by rw [hlen]; simp)
 have hnz : ¬ n * i.size = 0 := by rw [q3]; exact Nat.mul_ne_zero (by omega) (by omega)
 have hrun := run_buildSlice (P := P) w t e n (parts.map fun (i, x) => (i, a.eval x)) cs' i z hE.elem.und q1 q2 (by rw [q3]; omega) hnz (by
  rw [q3, Array.toList_map, h1]; exact k1)
 have hcs : cs'.toList = ((parts.toList.map fun p => a.eval p.2).map fun v => v.cells.toList).flatten := by rw [k2]; simp
 have hel : es.length = n := by rw [h2]; simpa using hn
 have hul := Dc h4 h3
 have hb : Below w.heap.size w (w.alloc (.cells cs' e)) := ⟨rfl, rfl, rfl, by simp, fun k hk => Below.heap_alloc w _ k hk⟩
 have hown : (w.alloc (.cells cs' e)).ownsRow 0 e sz (.slice (some ⟨w.heap.size, 0, none⟩) n n) es.length ((parts.toList.map fun p => a.eval p.2).map fun v => v.cells.toList).flatten := by
  rw [hel]
  refine ⟨by rw [hul, hel], .inr ⟨w.heap.size, n, cs', rfl, Nat.zero_le _, heap_alloc_new w _, Nat.le_refl _, ?_, ?_, ?_⟩⟩
  ·have := Nat.le_mul_of_pos_right n hpos
   unfold maxLen; omega
  ·rw [← Array.length_toList, hcs, hul, hel]
  ·rw [hcs, List.take_of_length_le (by rw [hul, hel]; exact Nat.le_refl _)]
 refine ⟨_, _, by simp [execOp, hrun], hb, GD (AL (Nat.le_refl _) (fun b hb' hp => ⟨hp, hb.block b hb'⟩) h3) h4 h6 hown (fun _ b hb' => ?_) fun b hb' => ?_⟩
 ·simp [Value.ownBlock] at hb'; subst hb'; exact hS.inv.base
 ·simp [Value.ownBlock] at hb'; subst hb'; exact IV hS.inv _ (.inr (Nat.le_refl _))
theorem Me.bsd {tm : List (Nat × V)} {st : List E} {t ty e : TypeId} {n : Nat} {parts : Array (Nat × Operand)} {sz by_ : Nat} {es : List (List D)} {dst : Option Tmp} {pos : String} {af : Array Edge} {gd : Option (Nat × Bool)} [hE : EQ P t e sz by_] (hp : Ed ⟨tm, st, 0⟩ sz 0 parts.toList = some es) (hn : parts.size = n) (hn0 : Nat.ble 1 n = true) (hsm : Nat.ble (n * sz) 16777216 = true) :
  Me P cx ⟨dst, .buildSlice t n parts, ty, pos, af, gd⟩ tm st none (.d (.sl false true es)) [] := fun m nb g a w K Qx _ hS hK => by
 have hp' : Ed ⟨tm, st, nb⟩ sz 0 parts.toList = some es := by rw [← hp]; exact JM
 obtain ⟨u, w', h1, h2, h3⟩ := Q0 (P := P) (t := t) (ty := ty) hS hp' hn hn0 hsm
 refine ⟨fun _ _ => trivial, ?_⟩
 rw [Oper.semAt_plain (FW cx.rd) _ _ (by intro c e; cases e), Bn, h1]
 exact hK u g w' ⟨BZ.of_below hS.inv h2, fun b hb' => h2.block b hb', fun _ _ => ⟨rfl, rfl, rfl⟩⟩ AC.nil (hS.inv.evo h2.size) (by simp only [vrep]; exact h3)
end
section
variable {P : Program} {cx : Cx} {Q : VE → St → Prop} {tm : List (Nat × V)} {st : List E} {nb : Nat}
theorem C7 {ops rest : List Oper} {d : Tmp} {t e ty : TypeId} {n sz by_ : Nat} {parts : Array (Nat × Operand)} {es : List (List D)} {pos : String} {af : Array Edge} {gd : Option (Nat × Bool)} [hE : EQ P t e sz by_] (k : VL P cx ops rest ⟨(d, .d (.sl false true es)) :: tm, st, nb⟩ Q)
  (hp : (Ed ⟨tm, st, nb⟩ sz 0 parts.toList).bind nrm = some es := by rfl) (hn : parts.size = n := by rfl) (hn0 : Nat.ble 1 n = true := by rfl) (hsm : Nat.ble (n * sz) 16777216 = true := by rfl)
  (hw : Wd ops tm gd := by first | exact trivial | exact A1 rfl rfl (by with_reducible rfl)) (hd : Nat.blt d cx.N = true := by rfl) : VL P cx ops (⟨some d, .buildSlice t n parts, ty, pos, af, gd⟩ :: rest) ⟨tm, st, nb⟩ Q :=
 Wx (st' := st) (nb' := nb) (fun g a w hS => by
  obtain ⟨es', e1, e2⟩ := Option.bind_eq_some_iff.1 hp
  rw [Qe e2] at e1
  obtain ⟨u, w', h1, h2, h3⟩ := Q0 (P := P) (t := t) (ty := ty) hS e1 hn hn0 hsm
  exact ⟨u, g, w', h1, BZ.of_below hS.inv h2, hS.st.below hS.inv h2, hS.inv.evo h2.size, by simp only [vrep]; exact h3⟩) hw hd rfl k
variable {l : List Oper} {tm0 : List (Nat × V)} {AO stO : List E} {nb0 : Nat} {ds : List Nat} {hd tl : List Oper} {i : Nat} {acc : List Ac} {gd : Option (Nat × Bool)}
theorem Ha {d : Tmp} {t e ty : TypeId} {n sz by_ : Nat} {parts : Array (Nat × Operand)} {es : List (List D)} {pos : String} {af : Array Edge} {vis : List E} {tmI : List (Nat × V)} [hE : EQ P t e sz by_]
  (k : VD P cx l tm0 AO stO nb0 ds Q hd tl (i + 1) (⟨i, d, .d (.sl false true es), [], vis, none, none, [], none⟩ :: acc) ((d, .d (.sl false true es)) :: tm) st nb)
  (hsel : ED af.toList ds acc tm0 (gT l ⟨some d, .buildSlice t n parts, ty, pos, af, gd⟩ ++ Ct (Op.buildSlice t n parts).operands.toList) = some tmI := by rfl) (hvis : E3 acc af.toList = some vis := by rfl) (hw : Wd l tmI gd := by first | exact trivial | exact A1 rfl rfl (by with_reducible rfl))
  (hp : (Ed ⟨tmI, vis ++ AO, 0⟩ sz 0 parts.toList).bind nrm = some es := by rfl) (hn : parts.size = n := by rfl) (hn0 : Nat.ble 1 n = true := by rfl) (hsm : Nat.ble (n * sz) 16777216 = true := by rfl)
  (hd' : Nat.blt d cx.N = true := by rfl) (hds : C5 d ds = true := by rfl) (hfa : CM d acc = none := by rfl) : VD P cx l tm0 AO stO nb0 ds Q (⟨some d, .buildSlice t n parts, ty, pos, af, gd⟩ :: hd) tl i acc tm st nb :=
 EA k (.inl ⟨rfl, Nat.le_of_ble_eq_true hd'⟩) hds hfa hsel hvis (Px.of hw (Me.bsd (P := P) (t := t) (by obtain ⟨es', e1, e2⟩ := Option.bind_eq_some_iff.1 hp; rw [Qe e2] at e1; exact e1) hn hn0 hsm)) (.inl ⟨rfl, rfl, rfl⟩) (.inl rfl) rfl (.inl rfl)
def Uf (d : Nat) : List Oper → Bool
 | [] => false
 | ⟨_, .store _ (.tmp t) _, _, _, _, _⟩ :: r => (match Nat.beq t d with
  | true => true
  | false => Uf d r)
 | _ :: r => Uf d r
theorem Abs {d : Tmp} {op : Op} {ty : TypeId} {pos : String} {af : Array Edge} {v : V} {e : E} {vis : List E} {tmI : List (Nat × V)} (k : VD P cx l tm0 AO stO nb0 ds Q hd tl (i + 1) (⟨i, d, v, [], vis, some nb, none, [e], none⟩ :: acc) ((d, v) :: tm) st (nb + 1)) (_ : Uf d hd = true := by rfl)
  (hsel : ED af.toList ds acc tm0 (gT l ⟨some d, op, ty, pos, af, gd⟩ ++ Ct op.operands.toList) = some tmI := by rfl) (hvis : E3 acc af.toList = some vis := by rfl) (hw : Wd l tmI gd := by first | exact trivial | exact A1 rfl rfl (by with_reducible rfl))
  (h : Qs P cx op ty tmI (vis ++ AO) v nb e := by first | (with_reducible apply Kq) | ((with_reducible apply Rf) <;> rfl) | ((with_reducible apply Xm) <;> rfl) | ((with_reducible apply Nr); rfl; rfl; omega; omega; decide; rfl) | ((with_reducible apply Ns); rfl; rfl; (first | exact .row rfl | exact .nil | exact .sl (by first | assumption | (simp; fail_if_success (focus skip)))); (first | omega | (focus (simp; fail_if_success (focus skip))) | (simp; omega)); decide) | ((with_reducible apply Nt); rfl; (first | exact .rv rfl (Nat.le_refl _) | exact .rv rfl (by omega) | exact .sl (by first | assumption | (simp; fail_if_success (focus skip)))); rfl; (first | exact .row rfl | exact .sl (by first | assumption | (simp; fail_if_success (focus skip)))); (first | omega | simp); (first | omega | (focus (simp; fail_if_success (focus skip))) | (simp; omega)); decide))
  (hd' : Nat.blt d cx.N = true := by rfl) (hn : BS op = true := by rfl) (hds : C5 d ds = true := by rfl) (hfa : CM d acc = none := by rfl) (hrb : JC nb [e] = true := by rfl) : VD P cx l tm0 AO stO nb0 ds Q (⟨some d, op, ty, pos, af, gd⟩ :: hd) tl i acc tm st nb :=
 EA k (.inl ⟨rfl, Nat.le_of_ble_eq_true hd'⟩) hds hfa hsel hvis (Px.of hw (Me.ofR h hn)) (.inr ⟨rfl, rfl⟩) (.inr ⟨_, rfl⟩) hrb (.inr rfl)
theorem RZ {t' ty : TypeId} {x y : Operand} {k' off sz : Nat} {ag : Bool} {z : List Value} {v : V} {vs old : List V} {pos : String} {af : Array Edge} {vis : List E} {tmI : List (Nat × V)} {zi zd : Nat} {zv : V} {zs : List E} {zn : Option Nat} {zc : Option (Nat × E)} {zr : Option Nat} [hT : BE P t' ag (sz + 1) z]
  (kk : VD P cx l tm0 AO stO nb0 ds Q hd tl (i + 1) (⟨i, 1000000 + i, .d .any, [.c k' off vs], vis, none, some (k', .c k' off old), [.c k' off vs], some zi⟩ :: acc) ((1000000 + i, .d .any) :: tm) (.c k' off vs :: st) nb)
  (hsel : ED af.toList ds acc tm0 (Ct (Op.store t' x y).operands.toList) = some tmI := by rfl) (hvis : E3 acc af.toList = some vis := by rfl)
  (hx : ∀ nb, Af ⟨tmI, vis ++ AO, nb⟩ x = some (.ptr k' off) := by intro _; rfl) (hz : I4 k' acc = some ⟨zi, zd, zv, [], zs, zn, zc, [.c k' off old], zr⟩ := by rfl) (hzm : E8 zi af.toList = true := by rfl) (hy : ∀ nb, Af ⟨tmI, vis ++ AO, nb⟩ y = some v := by intro _; rfl) (hv : Bt v = some vs := by rfl) (hl : vs.length = sz + 1 := by rfl) (h1 : Ca vs = true := by rfl)
  (hol : old.length = sz + 1 := by rfl)
  (hnk : Dt k' (vis ++ AO) = true := by rfl) (hn0 : Dt k' AO = true := by rfl) (hds : C5 (1000000 + i) ds = true := by rfl) (hfa : CM (1000000 + i) acc = none := by rfl) :
  VD P cx l tm0 AO stO nb0 ds Q (⟨none, .store t' x y, ty, pos, af, none⟩ :: hd) tl i acc tm st nb :=
 KM kk (.inr ⟨rfl, rfl⟩) hds hfa hsel hvis trivial (RM hx hy hv hl h1 hol hnk) hn0 HT HT (.inl rfl) (.inr ⟨_, hz, rfl, rfl, rfl, hzm⟩)
end

end Go.Proofs.YtbgcjnfhadhjeaaGreat