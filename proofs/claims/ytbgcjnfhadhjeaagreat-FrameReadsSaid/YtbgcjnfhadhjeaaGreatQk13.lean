/- Walks by data and names, part 13: Regions that draw their order, in walks: each operation is shown once, of what it waits for alone. -/
import Derived.OrdersIn
import Derived.Test.YtbgcjnfhadhjeaaGreatQk12
namespace Go.Proofs.YtbgcjnfhadhjeaaGreat
set_option maxRecDepth 20000
open Go.RowKit
structure Qt (B : Nat) (g : G) (w : World) (g' : G) (w' : World) (k : Option Nat) : Prop where
 evo : BZ B g w g' w'
 keep : ∀ b, b < w.heap.size → w'.heap[b]? = w.heap[b]?
 same : ∀ i, some i ≠ k → g'.bx i = g.bx i ∧ g'.rb i = g.rb i ∧ g'.rw i = g.rw i
theorem New.o {B : Nat} {g : G} {w : World} {g' : G} {w' : World} {k : Nat} (h : New B g w g' w' k) : Qt B g w g' w' (some k) := ⟨h.evo, h.keep, fun i hi => h.same i (fun e => hi (by rw [e]))⟩
theorem AC.newO {B nb : Nat} {g g' : G} {w w' : World} {k : Option Nat} (h : Qt B g w g' w' k) (hi : CG B nb g w) (hf : ∀ i, k = some i → Mb g i) {st : List E} (hs : AC B g w st) : AC B g' w' st := by
 refine ⟨fun {i o x} hc => ?_, fun {i o nw ver e sz l} hr => ?_, fun {i r T tm0} hl => ?_⟩
 ·obtain ⟨b, rcs, ty, u, m1, m2, m3, m4⟩ := hs.cell hc
  exact ⟨b, rcs, ty, u, h.evo.bx m1, (h.keep b (hi.bxlt m1).1).trans m2, m3, h.evo.vrep m4⟩
 ·obtain ⟨v, xs, r1, _⟩ := hs.row hr
  have hne : some i ≠ k := fun e => by rw [(hf i e.symm).2.2] at r1; cases r1
  exact hs.keepRow h.evo (x := none) ⟨h.evo.os, h.evo.tape, h.evo.output, h.evo.size, fun b hb _ => h.keep b hb⟩ (h.same i hne).2.1 (h.same i hne).2.2 (by simp) hr
 ·obtain ⟨h1, h2⟩ := hs.loop hl
  exact ⟨fun lp e => let ⟨b, m1, m2⟩ := h1 lp e; ⟨b, h.evo.bx m1, (h.keep b (hi.bxlt m1).1).trans m2⟩, fun ht => h.evo.vrep (h2 ht)⟩
theorem AC.appS {B : Nat} {g : G} {w : World} : ∀ {es : List E}, ∀ {st : List E}, AC B g w es → AC B g w st → (es = [] ∨ ∃ e, es = [e]) → AC B g w (es ++ st)
 | [], _, _, h, _ => h
 | [_], _, h1, h2, _ => h1.cons h2
 | _ :: _ :: _, _, _, _, h => by rcases h with h | ⟨_, h⟩ <;> simp at h
def Me (P : Program) (cx : Cx) (o : Oper) (tm : List (Nat × V)) (st : List E) (nm : Option Nat) (v : V) (ent : List E) : Prop :=
 ∀ (n nb : Nat) (g : G) (a : Act) (w : World) (K : Act → World → Prop) (Qx : Exit → Act → World → Prop), (∀ k, nm = some k → k < nb ∧ Mb g k) → Dg cx g a w ⟨tm, st, nb⟩ →
  (∀ u g' w', Qt cx.B g w g' w' nm → AC cx.B g' w' ent → CG cx.B nb g' w' → vrep cx.B g' w' v u → K (a.put o.dst u) w') → o.wpIn (FW cx.rd) n P a w K Qx
def Dt (k : Nat) : List E → Bool
 | [] => true
 | .r _ _ k' _ _ _ _ :: s => (match Nat.beq k k' with
  | true => false
  | false => Dt k s)
 | .c k' _ _ :: s => (match Nat.beq k k' with
  | true => false
  | false => Dt k s)
 | .y _ _ _ _ :: s => Dt k s
theorem Kv {k : Nat} : ∀ {st : List E}, Dt k st = true → Az k st = none
 | [], _ => rfl
 | .c k' _ _ :: s, h => by
  simp only [Dt] at h
  split at h
  ·cases h
  ·simp only [Az]; exact Kv h
 | .y .. :: s, h => by simp only [Dt] at h; simp only [Az]; exact Kv h
 | .r _ _ k' _ _ _ _ :: s, h => by
  simp only [Dt] at h
  split at h
  ·cases h
  ·rename_i hb; simp only [Az, hb]; exact Kv h
theorem I0 {k o : Nat} : ∀ {st : List E}, Dt k st = true → Aq k o st = none
 | [], _ => rfl
 | .c k' _ _ :: s, h => by
  simp only [Dt] at h
  split at h
  ·cases h
  ·rename_i hb; simp only [Aq, hb]; exact I0 h
 | .y .. :: s, h => by simp only [Dt] at h; simp only [Aq]; exact I0 h
 | .r _ _ k' _ _ _ _ :: s, h => by
  simp only [Dt] at h
  split at h
  ·cases h
  ·simp only [Aq]; exact I0 h
theorem IZ {k : Nat} : ∀ {st : List E}, Dt k st = true → ∀ e ∈ st, Dt k [e] = true
 | [], _, e, he => by simp at he
 | .c k' _ _ :: s, h, e, he => by
  simp only [Dt] at h
  split at h
  ·cases h
  ·rename_i hb
   rcases List.mem_cons.1 he with rfl | he
   ·simp only [Dt, hb]
   ·exact IZ h e he
 | .y .. :: s, h, e, he => by
  simp only [Dt] at h
  rcases List.mem_cons.1 he with rfl | he
  ·rfl
  ·exact IZ h e he
 | .r _ _ k' _ _ _ _ :: s, h, e, he => by
  simp only [Dt] at h
  split at h
  ·cases h
  ·rename_i hb
   rcases List.mem_cons.1 he with rfl | he
   ·simp only [Dt, hb]
   ·exact IZ h e he
theorem MA {B : Nat} {g : G} {w : World} {st : List E} {o nw : Bool} {k ver : Nat} {e : TypeId} {sz : Nat} {l : List (List D)} (h : AC B g w (.r o nw k ver e sz l :: st)) (hn : Dt k st = true) : AC B g w st := by
 refine ⟨fun hc => h.cell (by simp only [Aq]; exact hc), fun {i o nw ver e sz l} hr => h.row ?_, fun hl => h.loop (by simp only [Au]; exact hl)⟩
 simp only [Az]
 split
 ·rename_i hb
  have := Nat.eq_of_beq_eq_true hb
  subst this
  rw [Kv hn] at hr; cases hr
 ·exact hr
theorem KU {B : Nat} {g : G} {w : World} {st : List E} {k off : Nat} {vs : List V} (h : AC B g w (.c k off vs :: st)) (hn : Dt k st = true) : AC B g w st := by
 refine ⟨fun {i o x} hc => h.cell ?_, fun hr => h.row (by simp only [Az]; exact hr), fun hl => h.loop (by simp only [Au]; exact hl)⟩
 simp only [Aq]
 split
 ·rename_i hb
  have := Nat.eq_of_beq_eq_true hb
  subst this
  rw [I0 hn] at hc; cases hc
 ·exact hc
theorem MB {B : Nat} {g : G} {w : World} {st : List E} {o nw o' nw' : Bool} {k ver ver' : Nat} {e e' : TypeId} {sz sz' : Nat} {l l' : List (List D)} (h : AC B g w (.r o nw k ver e sz l :: .r o' nw' k ver' e' sz' l' :: st)) : AC B g w (.r o nw k ver e sz l :: st) := by
 refine ⟨fun hc => h.cell (by simpa only [Aq] using hc), fun {i o nw ver e sz l} hr => h.row ?_, fun hl => h.loop (by simpa only [Au] using hl)⟩
 simp only [Az] at hr ⊢
 split
 ·rename_i hb; simp only [hb] at hr; exact hr
 ·rename_i hb; simp only [hb] at hr; exact hr
def OpC (P : Program) (cx : Cx) (o : Oper) (tm : List (Nat × V)) (st : List E) (k : Nat) (E0 : E) (v : V) (ent : E) : Prop :=
 ∀ (n nb : Nat) (g : G) (a : Act) (w : World) (K : Act → World → Prop) (Qx : Exit → Act → World → Prop), Dg cx g a w ⟨tm, E0 :: st, nb⟩ → AC cx.B g w [E0] →
  (∀ u g' w', BZ cx.B g w g' w' → (∀ i, i ≠ k → g'.bx i = g.bx i ∧ g'.rb i = g.rb i ∧ g'.rw i = g.rw i) → (∀ st', Dt k st' = true → AC cx.B g w st' → AC cx.B g' w' st') → AC cx.B g' w' [ent] → CG cx.B nb g' w' → vrep cx.B g' w' v u → K (a.put o.dst u) w') → o.wpIn (FW cx.rd) n P a w K Qx
section
variable {P : Program} {cx : Cx}
theorem Me.ofQ {o : Oper} {tm : List (Nat × V)} {st : List E} {v : V} (h : ∀ nb, Bq P cx o.op o.type ⟨tm, st, nb⟩ v) (hn : BS o.op = true) : Me P cx o tm st none v [] := fun n nb g a w K Qx _ hS hK => by
 obtain ⟨u, h1, h2⟩ := h nb g a w hS
 refine ⟨fun _ _ => trivial, ?_⟩
 rw [Oper.semAt_plain (FW cx.rd) _ _ (by intro c e; rw [e] at hn; cases hn), Bn, h1]
 exact hK u g w ⟨BZ.refl _ _ _, fun _ _ => rfl, fun _ _ => ⟨rfl, rfl, rfl⟩⟩ AC.nil hS.inv h2
theorem Me.ofR {o : Oper} {tm : List (Nat × V)} {st : List E} {v : V} {k : Nat} {e : E} (h : Qs P cx o.op o.type tm st v k e) (hn : BS o.op = true) : Me P cx o tm st (some k) v [e] := fun n nb g a w K Qx hk hS hK => by
 obtain ⟨u, g', w', h1, h2, h3, h4, h5⟩ := h nb g a w (hk k rfl).1 (hk k rfl).2 hS
 refine ⟨fun _ _ => trivial, ?_⟩
 rw [Oper.semAt_plain (FW cx.rd) _ _ (by intro c e; rw [e] at hn; cases hn), Bn, h1]
 exact hK u g' w' h2.o h3 h4 h5
theorem M4 {n nb : Nat} {g : G} {a : Act} {w : World} {tm : List (Nat × V)} {st : List E} {x : Operand} {f : FuncId} {xs : Array Operand} {tys : Array TypeId} {ty : TypeId} {pos : String} {af : Array Edge} {gd : Option (Nat × Bool)} {dst : Option Tmp} {v : V} {vs az : List V} {ds' ds : List D} {post : R → Prop} {K : Act → World → Prop} {Qx : Exit → Act → World → Prop}
  (hx : Af ⟨tm, st, nb⟩ x = some v) (hv : AY ⟨tm, st, nb⟩ xs.toList = some vs) (hf : GL v vs = some (f, az)) (ha : AD st az ds') (hd : El ds' ds) (hc : VP P f ds post) (hS : Dg cx g a w ⟨tm, st, nb⟩)
  (hK : ∀ e w' r, Below w.heap.size w w' → post r → PL w.heap.size (fun b => g.prot b ∨ w.heap.size ≤ b) w' r e → match e with
   | .returned v => K (a.put dst v) w'
   | .panicked ch => Qx (.panic ch) a w'
   | .outgrown => False) : (⟨dst, .call { callee := .value x, args := xs, argTypes := tys }, ty, pos, af, gd⟩ : Oper).wpIn (FW cx.rd) n P a w K Qx := by
 refine ⟨fun _ _ => trivial, ?_⟩
 rw [Oper.semAt_plain (FW cx.rd) _ _ (by intro c e; cases e)]
 obtain ⟨zs, hrun, hzs⟩ := EN (P := P) (w := w) (dst := dst) (tys := tys) (ty := ty) (pos := pos) (af := af) (gd := gd) hc.1 hS hx hv hf
 rw [hrun, Oper.uponIn_enter]
 refine ⟨(fun h => by cases h), ?_⟩
 have hargs := hd.le _ w.heap.size _ _ _ (ha.h _ _ _ _ hS.st hzs)
 have hcall := hc.2 g.prot w _ hargs
 have hmem : ∀ (r : Ending → World → Prop), Calls P f zs.toArray w r → CallsIn (FW cx.rd) (n - 1) P f zs.toArray w r := fun r h =>
  ⟨trivial, fun cs _ => by
   obtain ⟨e, w', fr, hr, hcm, hx⟩ := h cs
   refine ⟨e, w', fr, hr, ?_, hx⟩
   have := comesIn_wide.2 hcm
   cases e with
   | returned v => exact StepsIn.mono (fun m _ => Bh P cx.rd m) this
   | panicked ch => exact StepsIn.mono (fun m _ => Bh P cx.rd m) this
   | outgrown => exact this⟩
 refine (hmem _ hcall).mono ?_
 rintro e w' ⟨hb, r, hp, hr⟩
 have := hK e w' r hb hp hr
 cases e with
 | returned v => exact this
 | panicked ch => exact this
 | outgrown => exact this.elim
theorem IV {B nb : Nat} {g : G} {w : World} (hi : CG B nb g w) : ∀ b, g.prot b ∨ w.heap.size ≤ b → g.prot b := fun b h => by
 rcases h with h | h
 ·exact h
 ·rintro (ho | ⟨k, ho⟩ | ⟨k, ho⟩)
  ·have := hi.exlt ho; omega
  ·have := (hi.bxlt ho).1; omega
  ·have := (hi.rblt ho).1; omega
theorem JK {tm : List (Nat × V)} {st : List E} {nb nb' : Nat} {x : Operand} : Af ⟨tm, st, nb⟩ x = Af ⟨tm, st, nb'⟩ x := by cases x <;> rfl
theorem H3 {tm : List (Nat × V)} {st : List E} {nb nb' : Nat} : ∀ {l : List Operand}, AY ⟨tm, st, nb⟩ l = AY ⟨tm, st, nb'⟩ l
 | [] => rfl
 | x :: r => by
  have e1 : Af ⟨tm, st, nb⟩ x = Af ⟨tm, st, nb'⟩ x := by cases x <;> rfl
  simp only [AY, e1, H3 (nb := nb) (nb' := nb') (l := r)]
theorem Me.ret {x : Operand} {f : FuncId} {xs : Array Operand} {tys : Array TypeId} {ty : TypeId} {pos : String} {af : Array Edge} {gd : Option (Nat × Bool)} {dst : Option Tmp} {tm : List (Nat × V)} {st : List E} {v : V} {vs az : List V} {ds' ds : List D} {d : D}
  (hc : VP P f ds (· = .ret d)) (hx : Af ⟨tm, st, 0⟩ x = some v) (hv : AY ⟨tm, st, 0⟩ xs.toList = some vs) (hf : GL v vs = some (f, az)) (ha : AD st az ds') (hd : El ds' ds) : Me P cx ⟨dst, .call { callee := .value x, args := xs, argTypes := tys }, ty, pos, af, gd⟩ tm st none (.d d) [] := fun n nb g a w K Qx _ hS hK => by
 refine M4 (hx := by rw [← hx]; exact JK) (hv := by rw [← hv]; exact H3) hf ha hd hc hS fun e w' r hb hp hr => ?_
 subst hp
 obtain ⟨u, rfl, hu⟩ := hr
 refine hK u g w' ⟨BZ.of_below hS.inv hb, fun b hb' => hb.block b hb', fun _ _ => ⟨rfl, rfl, rfl⟩⟩ AC.nil (hS.inv.evo hb.size) ?_
 simp only [vrep]
 exact A4 hS.inv.base (fun b _ h => ⟨IV hS.inv b h, rfl⟩) hu
theorem Me.own {x : Operand} {f : FuncId} {xs : Array Operand} {tys : Array TypeId} {ty : TypeId} {pos : String} {af : Array Edge} {gd : Option (Nat × Bool)} {dst : Option Tmp} {tm : List (Nat × V)} {st : List E} {v : V} {vs az : List V} {ds' ds : List D} {e : TypeId} {sz k : Nat} {l : List (List D)}
  (hc : VP P f ds (· = .own e sz l)) (hx : Af ⟨tm, st, 0⟩ x = some v) (hv : AY ⟨tm, st, 0⟩ xs.toList = some vs) (hf : GL v vs = some (f, az)) (ha : AD st az ds') (hd : El ds' ds) : Me P cx ⟨dst, .call { callee := .value x, args := xs, argTypes := tys }, ty, pos, af, gd⟩ tm st (some k) (.row k 0) [.r true true k 0 e sz l] := fun n nb g a w K Qx hk hS hK => by
 refine M4 (hx := by rw [← hx]; exact JK) (hv := by rw [← hv]; exact H3) hf ha hd hc hS fun e' w' r hb hp hr => ?_
 subst hp
 obtain ⟨u, xs', rfl, h1, h2, h3⟩ := hr
 obtain ⟨m1, m2, m3, m4⟩ := Ea hS.inv (hk k rfl).2 (hk k rfl).1 hb (AL hS.inv.base (fun b _ h => ⟨⟨IV hS.inv b h.1, h.2⟩, rfl⟩) h1) h2 h3
 exact hK u _ w' m1.o m2 m3 m4
end
def gT (l : List Oper) (o : Oper) : List Tmp := match o.guard with
 | none => []
 | some (j, _) => match (l[j]?).bind (·.dst) with
  | some t => [t]
  | none => []
def Px (P : Program) (cx : Cx) (l : List Oper) (o : Oper) (tm : List (Nat × V)) (st : List E) (nm : Option Nat) (v : V) (ent : List E) : Prop :=
 ∀ (n nb : Nat) (g : G) (a : Act) (w : World) (K : Act → World → Prop) (Qx : Exit → Act → World → Prop), (∀ k, nm = some k → k < nb ∧ Mb g k) → Dg cx g a w ⟨tm, st, nb⟩ →
  (∀ u g' w', Qt cx.B g w g' w' nm → AC cx.B g' w' ent → CG cx.B nb g' w' → vrep cx.B g' w' v u → K (a.put o.dst u) w') →
  if Region.wanted o (yielded l.toArray a.tmps) then o.wpIn (FW cx.rd) n P a w K Qx else (∀ f, o.about P w a.eval = some f → (FW cx.rd).fn f) ∧ K (a.put o.dst undef) w
theorem Px.of {P : Program} {cx : Cx} {l : List Oper} {o : Oper} {tm : List (Nat × V)} {st : List E} {nm : Option Nat} {v : V} {ent : List E} (hw : Wd l tm o.guard) (h : Me P cx o tm st nm v ent) : Px P cx l o tm st nm v ent := fun n nb g a w K Qx hk hS hK => by
 rw [if_pos (Wd.wanted (s := ⟨tm, st, nb⟩) hS hw)]
 exact h n nb g a w K Qx hk hS hK
theorem Px.skip {P : Program} {cx : Cx} {l : List Oper} {o : Oper} {tm : List (Nat × V)} {st : List E} {j : Nat} {b : Bool} {t : Nat} {v v' : V} (hg : o.guard = some (j, b)) (h1 : (l[j]?).bind (·.dst) = some t) (h2 : AA t tm = some v) (hc : HF b v ∨ v = .d (.lit undef)) (hv : v' = .d (.lit undef) ∨ v' = .d .any) : Px P cx l o tm st none v' [] := fun n nb g a w K Qx _ hS hK => by
 have h3 := hS.tm h2
 have hw : Region.wanted o (yielded l.toArray a.tmps) = false := by
  rcases hc with hc | rfl
  ·obtain ⟨c, rfl, hc'⟩ := hc.of
   simp only [vrep, drep] at h3
   have h4 : a.tmps[t]? = some (.bool c) := by
    cases hq : a.tmps[t]? with
    | none => rw [Array.getD_eq_getD_getElem?, hq] at h3; simp [undef] at h3
    | some x => rw [Array.getD_eq_getD_getElem?, hq] at h3; simp at h3; rw [h3]
   simp only [Region.wanted, hg, yielded, List.getElem?_toArray, h1, Option.bind_some, h4]
   simpa using hc'
  ·simp only [vrep, drep] at h3
   simp only [Region.wanted, hg, yielded, List.getElem?_toArray, h1, Option.bind_some]
   rw [Array.getD_eq_getD_getElem?] at h3
   cases hq : a.tmps[t]? with
   | none => rfl
   | some x => rw [hq] at h3; simp only [Option.getD_some] at h3; subst h3; rfl
 rw [if_neg (by rw [hw]; simp)]
 exact ⟨fun _ _ => trivial, hK undef g w ⟨BZ.refl _ _ _, fun _ _ => rfl, fun _ _ => ⟨rfl, rfl, rfl⟩⟩ AC.nil hS.inv (by rcases hv with rfl | rfl <;> simp only [vrep, drep])⟩
structure Ac where
 i : Nat
 d : Tmp
 v : V
 e : List E
 vis : List E
 nm : Option Nat
 c : Option (Nat × E)
 p : List E
 r : Option Nat
def JC (nb : Nat) : List E → Bool
 | [] => true
 | .r _ _ k' _ _ _ _ :: s => (match Nat.beq nb k' with
  | true => JC nb s
  | false => false)
 | .c k' _ _ :: s => (match Nat.beq nb k' with
  | true => JC nb s
  | false => false)
 | .y _ _ _ _ :: s => JC nb s
theorem HV {nb k : Nat} (hk : nb ≠ k) : ∀ {st : List E}, JC nb st = true → Dt k st = true
 | [], _ => rfl
 | .c k' _ _ :: s, h => by
  simp only [JC] at h
  split at h
  ·rename_i hb
   have := Nat.eq_of_beq_eq_true hb
   simp only [Dt]
   rw [show Nat.beq k k' = false from by
    cases hb : Nat.beq k k'
    ·rfl
    ·have := Nat.eq_of_beq_eq_true hb; omega]
   exact HV hk h
  ·cases h
 | .y .. :: s, h => by simp only [JC] at h; simp only [Dt]; exact HV hk h
 | .r _ _ k' _ _ _ _ :: s, h => by
  simp only [JC] at h
  split at h
  ·rename_i hb
   have := Nat.eq_of_beq_eq_true hb
   simp only [Dt]
   rw [show Nat.beq k k' = false from by
    cases hb : Nat.beq k k'
    ·rfl
    ·have := Nat.eq_of_beq_eq_true hb; omega]
   exact HV hk h
  ·cases h
def Sy (k : Nat) (x : Ac) : Bool := match x.c with
 | some p => Nat.beq k p.1
 | none => false
def XR (k : Nat) : List Ac → Bool
 | [] => true
 | x :: l => match Sy k x with
  | true => false
  | false => XR k l
theorem OY {k : Nat} : ∀ {l : List Ac}, XR k l = true → ∀ x ∈ l, ∀ E0, x.c ≠ some (k, E0)
 | [], _, x, hx, _ => by simp at hx
 | y :: l, h, x, hx, E0 => by
  simp only [XR] at h
  split at h
  ·cases h
  ·rename_i hb
   rcases List.mem_cons.1 hx with rfl | hx
   ·intro e; simp only [Sy, e, Nat.beq_refl] at hb; cases hb
   ·exact OY h x hx E0
def Pv (k : Nat) (x : Ac) : Prop := x.nm = some k ∨ ∃ E0, x.c = some (k, E0)
def Zv (k : Nat) (x : Ac) : Bool := match x.nm with
 | some j => (match Nat.beq k j with
  | true => true
  | false => Sy k x)
 | none => Sy k x
theorem Pa {k : Nat} {x : Ac} : Sy k x = true ↔ ∃ E0, x.c = some (k, E0) := by
 unfold Sy
 cases h : x.c with
 | none => simp
 | some p =>
  obtain ⟨j, E⟩ := p
  simp only [Option.some.injEq, Prod.mk.injEq]
  constructor
  ·intro h; exact ⟨E, (Nat.eq_of_beq_eq_true h).symm, rfl⟩
  ·rintro ⟨_, h, _⟩; subst h; exact Nat.beq_refl _
theorem Oo {k : Nat} {x : Ac} : Zv k x = true ↔ Pv k x := by
 unfold Zv Pv
 cases h : x.nm with
 | none => simp [Pa]
 | some j =>
  simp only [Option.some.injEq]
  split
  ·rename_i hb; simp [(Nat.eq_of_beq_eq_true hb).symm]
  ·rename_i hb
   have hne : j ≠ k := fun e => by subst e; rw [Nat.beq_refl] at hb; cases hb
   simp [Pa, hne]
def I4 (k : Nat) : List Ac → Option Ac
 | [] => none
 | x :: l => match Zv k x with
  | true => some x
  | false => I4 k l
theorem GI {k : Nat} {z : Ac} : ∀ {l : List Ac}, I4 k l = some z → ∃ a b, l = a ++ z :: b ∧ Pv k z ∧ ∀ y ∈ a, ¬ Pv k y
 | [], h => by simp [I4] at h
 | x :: l, h => by
  simp only [I4] at h
  split at h
  ·rename_i hb; cases h; exact ⟨[], l, rfl, Oo.1 hb, by simp⟩
  ·rename_i hb
   obtain ⟨a, b, e, h1, h2⟩ := GI h
   refine ⟨x :: a, b, by rw [e]; rfl, h1, fun y hy => ?_⟩
   rcases List.mem_cons.1 hy with rfl | hy
   ·intro h; rw [Oo.2 h] at hb; cases hb
   ·exact h2 y hy
def C5 (x : Nat) : List Nat → Bool
 | [] => false
 | y :: l => match Nat.beq x y with
  | true => true
  | false => C5 x l
def CM (t : Tmp) : List Ac → Option Ac
 | [] => none
 | x :: l => match Nat.beq t x.d with
  | true => some x
  | false => CM t l
def Pi (i : Nat) : List Ac → Option Ac
 | [] => none
 | x :: l => match Nat.beq i x.i with
  | true => some x
  | false => Pi i l
theorem MV {t : Tmp} {x : Ac} : ∀ {l : List Ac}, CM t l = some x → x ∈ l ∧ x.d = t
 | [], h => by simp [CM] at h
 | y :: l, h => by
  simp only [CM] at h
  split at h
  ·rename_i hb; cases h; exact ⟨by simp, (Nat.eq_of_beq_eq_true hb).symm⟩
  ·have := MV h; exact ⟨by simp [this.1], this.2⟩
theorem LD {t : Tmp} : ∀ {l : List Ac}, CM t l = none → ∀ x ∈ l, x.d ≠ t
 | [], _, x, hx => by simp at hx
 | y :: l, h, x, hx => by
  simp only [CM] at h
  split at h
  ·cases h
  ·rename_i hb
   rcases List.mem_cons.1 hx with rfl | hx
   ·intro e; rw [← e, Nat.beq_refl] at hb; cases hb
   ·exact LD h x hx
theorem MU {i : Nat} {x : Ac} : ∀ {l : List Ac}, Pi i l = some x → x ∈ l ∧ x.i = i
 | [], h => by simp [Pi] at h
 | y :: l, h => by
  simp only [Pi] at h
  split at h
  ·rename_i hb; cases h; exact ⟨by simp, (Nat.eq_of_beq_eq_true hb).symm⟩
  ·have := MU h; exact ⟨by simp [this.1], this.2⟩
def E8 (i : Nat) : List Edge → Bool
 | [] => false
 | e :: l => match Nat.beq i e.on with
  | true => (match Region.binds .any e with
   | true => true
   | false => E8 i l)
  | false => E8 i l
theorem C1 {i : Nat} : ∀ {l : List Edge}, E8 i l = true → ∃ e ∈ l, Region.binds .any e = true ∧ e.on = i
 | [], h => by simp [E8] at h
 | e :: l, h => by
  simp only [E8] at h
  split at h
  ·rename_i hb
   split at h
   ·rename_i hc; exact ⟨e, by simp, hc, (Nat.eq_of_beq_eq_true hb).symm⟩
   ·obtain ⟨f, hf, h⟩ := C1 h; exact ⟨f, by simp [hf], h⟩
  ·obtain ⟨f, hf, h⟩ := C1 h; exact ⟨f, by simp [hf], h⟩
def ED (es : List Edge) (ds : List Nat) (acc : List Ac) (tm : List (Nat × V)) : List Tmp → Option (List (Nat × V))
 | [] => some []
 | t :: ts => match ED es ds acc tm ts with
  | none => none
  | some r => (match CM t acc with
   | some ⟨i, _, v, _, _, _, _, _, _⟩ => (match E8 i es with
    | true => some ((t, v) :: r)
    | false => none)
   | none => (match C5 t ds with
    | true => none
    | false => (match AA t tm with
     | some v => some ((t, v) :: r)
     | none => some r)))
def E3 (acc : List Ac) : List Edge → Option (List E)
 | [] => some []
 | e :: l => match E3 acc l with
  | none => none
  | some r => (match Region.binds .any e with
   | false => some r
   | true => (match Pi e.on acc with
    | none => some r
    | some ⟨_, _, _, en, vi, _, _, _, _⟩ => (match en, vi with
     | [], [] => some r
     | [x], [] => some (x :: r)
     | a, b => some (a ++ (b ++ r)))))
theorem MC {es : List Edge} {ds : List Nat} {acc : List Ac} {tm : List (Nat × V)} : ∀ {ts : List Tmp} {r : List (Nat × V)}, ED es ds acc tm ts = some r →
  ∀ {t v}, AA t r = some v → (∃ x ∈ acc, x.d = t ∧ x.v = v ∧ E8 x.i es = true) ∨ (C5 t ds = false ∧ AA t tm = some v)
 | [], r, h, t, v, hl => by simp only [ED, Option.some.injEq] at h; subst h; simp [AA] at hl
 | t0 :: ts, r, h, t, v, hl => by
  simp only [ED] at h
  split at h
  ·cases h
  ·rename_i r0 hr
   have ih : ∀ {t v}, AA t r0 = some v → (∃ x ∈ acc, x.d = t ∧ x.v = v ∧ E8 x.i es = true) ∨ (C5 t ds = false ∧ AA t tm = some v) := fun h => MC (ts := ts) hr h
   split at h
   ·rename_i i d v0 _ _ _ _ _ _ hx
    have hx' := MV hx
    split at h
    ·rename_i hm
     cases h
     simp only [AA] at hl
     split at hl
     ·rename_i hb
      have hb' := Nat.eq_of_beq_eq_true hb
      have hv : v0 = v := by simpa using hl
      exact .inl ⟨_, hx'.1, by rw [hb']; exact hx'.2, hv, hm⟩
     ·exact ih hl
    ·cases h
   ·split at h
    ·cases h
    ·rename_i hm
     split at h
     ·rename_i v0 hv
      cases h
      simp only [AA] at hl
      split at hl
      ·rename_i hb
       have hb' := Nat.eq_of_beq_eq_true hb
       have hv0 : v0 = v := by simpa using hl
       subst hb'; subst hv0
       exact .inr ⟨hm, hv⟩
      ·exact ih hl
     ·cases h; exact ih hl
theorem AC.app {B : Nat} {g : G} {w : World} : ∀ {es : List E}, ∀ {st : List E}, (∀ e ∈ es, AC B g w [e]) → AC B g w st → AC B g w (es ++ st)
 | [], _, _, h => h
 | e :: es, _, h1, h2 => AC.cons (h1 e (by simp)) (AC.app (fun e he => h1 e (by simp [he])) h2)
theorem FX {acc : List Ac} : ∀ {es : List Edge} {r : List E}, E3 acc es = some r → ∀ y ∈ r, ∃ x ∈ acc, E8 x.i es = true ∧ (y ∈ x.e ∨ y ∈ x.vis)
 | [], r, h, y, hy => by simp only [E3, Option.some.injEq] at h; subst h; simp at hy
 | e :: l, r, h, y, hy => by
  simp only [E3] at h
  split at h
  ·cases h
  ·rename_i r0 hr
   have hup : (∃ x ∈ acc, E8 x.i l = true ∧ (y ∈ x.e ∨ y ∈ x.vis)) → ∃ x ∈ acc, E8 x.i (e :: l) = true ∧ (y ∈ x.e ∨ y ∈ x.vis) := fun ⟨x, hx, hm, k⟩ => by
    refine ⟨x, hx, ?_, k⟩
    simp only [E8]
    split
    ·split
     ·rfl
     ·exact hm
    ·exact hm
   have ih := fun hy => hup (FX (es := l) hr y hy)
   split at h
   ·cases h; exact ih hy
   ·rename_i hb
    split at h
    ·cases h; exact ih hy
    ·rename_i i d v en vi nm cc _ _ hx
     have hx' := MU hx
     have hm : E8 i (e :: l) = true := by
      simp only [E8]
      have : i = e.on := hx'.2
      rw [this, Nat.beq_refl, hb]
     split at h
     ·cases h; exact ih hy
     ·rename_i z
      cases h
      rcases List.mem_cons.1 hy with rfl | hy
      ·exact ⟨_, hx'.1, hm, .inl (by simp)⟩
      ·exact ih hy
     ·cases h
      rcases List.mem_append.1 hy with hy | hy
      ·exact ⟨_, hx'.1, hm, .inl hy⟩
      ·rcases List.mem_append.1 hy with hy | hy
       ·exact ⟨_, hx'.1, hm, .inr hy⟩
       ·exact ih hy
def Ct : List Operand → List Tmp
 | [] => []
 | .tmp t :: l => t :: Ct l
 | _ :: l => Ct l
def TD (o : Oper) : List Tmp := Ct o.op.operands.toList
def AaK : Nat → List Oper → List Nat
 | _, [] => []
 | i, o :: l => match o.dst with
  | some d => d :: AaK (i + 1) l
  | none => (1000000 + i) :: AaK (i + 1) l
def X6 (l : List Oper) : List Nat := AaK 0 l
def RJ (l : List Oper) (n : Nat) : Bool :=
 decide (n ≤ l.length) && (decide (n = l.length) || (decide (n < l.length) && Region.sinkB .any l.toArray n && Region.chainB .any l.toArray n)) && Region.seqB .any l.toArray (l.length - n) n (Ge l.length n) &&
 (List.range n).all fun i => ((l[i]?).map fun o => o.after.toList.all fun e => !Region.binds .any e || decide (e.on < i)).getD false
section
variable {P : Program} {cx : Cx} {l : List Oper} {tm0 : List (Nat × V)} {AO stO : List E} {ds : List Nat}
def EOk (stO : List E) (k : Nat) (E0 : E) : Prop := (∃ nw ver e sz lr, E0 = .r true nw k ver e sz lr ∧ Az k stO = some (true, nw, ver, e, sz, lr)) ∨ ∃ off vs, E0 = .c k off vs ∧ ∀ i v, vs[i]? = some v → Aq k (off + i) stO = some v
structure Stp (P : Program) (cx : Cx) (l : List Oper) (tm0 : List (Nat × V)) (AO stO : List E) (ds : List Nat) (nb0 : Nat) (B : List Ac) (x : Ac) (nb nb' : Nat) : Prop where
 o : ∃ o tmI, l[B.length]? = some o ∧ ED o.after.toList ds B tm0 (gT l o ++ TD o) = some tmI ∧ E3 B o.after.toList = some x.vis ∧ ((o.dst = some x.d ∧ x.d < cx.N) ∨ (o.dst = none ∧ x.v = .d .any)) ∧
  ((x.c = none ∧ Px P cx l o tmI (x.vis ++ AO) x.nm x.v x.p) ∨ ∃ k E0 ent, x.c = some (k, E0) ∧ x.nm = none ∧ x.p = [ent] ∧ Wd l tmI o.guard ∧ OpC P cx o tmI (x.vis ++ AO) k E0 x.v ent ∧ ∀ j, x.r = some j → E8 j o.after.toList = true)
 ep : x.e = x.p ∨ x.e = []
 c : (x.c = none ∧ ∀ k, x.nm ≠ some k → Dt k x.p = true) ∨ ∃ k E0, x.c = some (k, E0) ∧ Dt k AO = true ∧ (∀ k', k' ≠ k → Dt k' x.p = true) ∧ (∀ k', k' ≠ k → Dt k' [E0] = true) ∧
  ((x.r = none ∧ (k < nb0 ∧ EOk stO k E0) ∧ XR k B = true) ∨ ∃ z, I4 k B = some z ∧ x.r = some z.i ∧ z.p = [E0] ∧ z.e = [])
 idx : x.i = B.length
 d : C5 x.d ds = true ∧ CM x.d B = none
 nm : (x.nm = none ∧ nb' = nb) ∨ (x.nm = some nb ∧ nb' = nb + 1)
 e : x.p = [] ∨ ∃ e, x.p = [e]
inductive Qv (P : Program) (cx : Cx) (l : List Oper) (tm0 : List (Nat × V)) (AO stO : List E) (ds : List Nat) (nb0 : Nat) : List Ac → List (Nat × V) → List E → Nat → Prop
 | nil : Qv P cx l tm0 AO stO ds nb0 [] tm0 AO nb0
 | cons {B : List Ac} {x : Ac} {tm : List (Nat × V)} {st : List E} {nb nb' : Nat} (h : Qv P cx l tm0 AO stO ds nb0 B tm st nb) (k : Stp P cx l tm0 AO stO ds nb0 B x nb nb') : Qv P cx l tm0 AO stO ds nb0 (x :: B) ((x.d, x.v) :: tm) (x.e ++ st) nb'
structure Ma (P : Program) (cx : Cx) (l : List Oper) (tm0 : List (Nat × V)) (AO stO : List E) (ds : List Nat) (nb0 : Nat) (L : List Ac) (tm : List (Nat × V)) (st : List E) (nb : Nat) : Prop where
 up : nb0 ≤ nb
 stp : ∀ x ∈ L, ∃ B nb1 nb2, Stp P cx l tm0 AO stO ds nb0 B x nb1 nb2 ∧ (∀ y ∈ B, y ∈ L ∧ y.i < x.i) ∧ B.length < L.length ∧ (∀ y ∈ L, y.i < x.i → y ∈ B) ∧ (∀ y ∈ B, ∀ k, Pv k y → k < nb1) ∧ nb0 ≤ nb1 ∧ ∀ a z b, B = a ++ z :: b → ∀ y ∈ b, y.i < z.i
 nmb : ∀ x ∈ L, ∀ k, x.nm = some k → nb0 ≤ k ∧ k < nb
 tlt : ∀ x ∈ L, ∀ k, Pv k x → k < nb
 srt : ∀ a z b, L = a ++ z :: b → ∀ y ∈ b, y.i < z.i
 idx : ∀ i, i < L.length → ∃ x ∈ L, x.i = i
 ilt : ∀ x ∈ L, x.i < L.length
 one : ∀ x ∈ L, ∀ y ∈ L, x.i = y.i → x = y
 dne : ∀ x ∈ L, ∀ y ∈ L, x.i ≠ y.i → x.d ≠ y.d
 nne : ∀ x ∈ L, ∀ y ∈ L, x.i ≠ y.i → ∀ k, x.nm = some k → y.nm ≠ some k
 dds : ∀ x ∈ L, C5 x.d ds = true
 look : ∀ {t v}, AA t tm = some v → (∃ x ∈ L, x.d = t ∧ x.v = v) ∨ ((∀ x ∈ L, x.d ≠ t) ∧ AA t tm0 = some v)
 log : ∀ {g w}, AC cx.B g w AO → (∀ x ∈ L, AC cx.B g w x.e) → AC cx.B g w st
theorem Qv.facts {nb0 : Nat} {L : List Ac} {tm : List (Nat × V)} {st : List E} {nb : Nat} (h : Qv P cx l tm0 AO stO ds nb0 L tm st nb) : Ma P cx l tm0 AO stO ds nb0 L tm st nb := by
 induction h with
 | nil => exact ⟨Nat.le_refl _, by simp, by simp, by simp, by simp, by simp, by simp, by simp, by simp, by simp, by simp, fun h => .inr ⟨by simp, h⟩, fun h _ => h⟩
 | @cons B x tm st nb nb' h k ih =>
  have hnb : nb ≤ nb' := by rcases k.nm with ⟨_, e⟩ | ⟨_, e⟩ <;> omega
  have hfa := LD k.d.2
  have htl : ∀ k', Pv k' x → k' < nb' := fun k' ht => by
   rcases ht with h | ⟨E0, h⟩
   ·rcases k.nm with ⟨e, _⟩ | ⟨e, e'⟩
    ·rw [e] at h; cases h
    ·rw [e] at h; cases h; omega
   ·rcases k.c with ⟨e, _⟩ | ⟨k2, E2, e, _, _, _, q⟩
    ·rw [e] at h; cases h
    ·rw [e] at h; cases h
     rcases q with ⟨_, ⟨q, _⟩, _⟩ | ⟨z, q, _⟩
     ·have := ih.up; omega
     ·obtain ⟨a, b, e, q1, _⟩ := GI q
      have := ih.tlt z (by rw [e]; simp) _ q1; omega
  refine ⟨Nat.le_trans ih.up hnb, ?_, ?_, ?_, ?_, ?_, ?_, ?_, ?_, ?_, ?_, ?_, ?_⟩
  ·intro y hy
   rcases List.mem_cons.1 hy with rfl | hy
   ·refine ⟨B, nb, nb', k, fun z hz => ⟨by simp [hz], by rw [k.idx]; exact ih.ilt z hz⟩, by simp, fun z hz hl => ?_, ih.tlt, ih.up, ih.srt⟩
    rcases List.mem_cons.1 hz with rfl | hz
    ·omega
    ·exact hz
   ·obtain ⟨B', n1, n2, h1, h2, h3, h4, h5, h6, h7⟩ := ih.stp y hy
    refine ⟨B', n1, n2, h1, fun z hz => ⟨by simp [(h2 z hz).1], (h2 z hz).2⟩, by simp; omega, fun z hz hl => ?_, h5, h6, h7⟩
    rcases List.mem_cons.1 hz with rfl | hz
    ·have := ih.ilt y (by assumption); rw [k.idx] at hl; omega
    ·exact h4 z hz hl
  ·intro y hy i hi
   rcases List.mem_cons.1 hy with rfl | hy
   ·rcases k.nm with ⟨e, _⟩ | ⟨e, e'⟩
    ·rw [e] at hi; cases hi
    ·rw [e] at hi; cases hi; have := ih.up; omega
   ·have := ih.nmb y hy i hi; omega
  ·intro y hy i hi
   rcases List.mem_cons.1 hy with rfl | hy
   ·exact htl i hi
   ·have := ih.tlt y hy i hi; omega
  ·intro a z b e y hy
   cases a with
   | nil => simp only [List.nil_append, List.cons.injEq] at e; obtain ⟨rfl, rfl⟩ := e; rw [k.idx]; exact ih.ilt y hy
   | cons a0 a => simp only [List.cons_append, List.cons.injEq] at e; exact ih.srt a z b e.2 y hy
  ·intro i hi
   by_cases e : i = B.length
   ·exact ⟨x, by simp, k.idx.trans e.symm⟩
   ·obtain ⟨y, hy, e⟩ := ih.idx i (by simp at hi; omega)
    exact ⟨y, by simp [hy], e⟩
  ·intro y hy
   rcases List.mem_cons.1 hy with rfl | hy
   ·rw [k.idx]; simp
   ·have := ih.ilt y hy; simp; omega
  ·intro y hy z hz e
   rcases List.mem_cons.1 hy with rfl | hy' <;> rcases List.mem_cons.1 hz with rfl | hz'
   ·rfl
   ·have := ih.ilt z hz'; rw [← e, k.idx] at this; omega
   ·have := ih.ilt y hy'; rw [e, k.idx] at this; omega
   ·exact ih.one y hy' z hz' e
  ·intro y hy z hz e
   rcases List.mem_cons.1 hy with rfl | hy' <;> rcases List.mem_cons.1 hz with rfl | hz'
   ·exact absurd rfl e
   ·exact fun e => hfa z hz' e.symm
   ·exact hfa y hy'
   ·exact ih.dne y hy' z hz' e
  ·intro y hy z hz e i h1 h2
   have hx : ∀ y ∈ B, ∀ i, x.nm = some i → y.nm = some i → False := fun y hy i h1 h2 => by
    have := ih.nmb y hy i h2
    rcases k.nm with ⟨e, _⟩ | ⟨e, e'⟩
    ·rw [e] at h1; cases h1
    ·rw [e] at h1; cases h1; omega
   rcases List.mem_cons.1 hy with rfl | hy' <;> rcases List.mem_cons.1 hz with rfl | hz'
   ·exact absurd rfl e
   ·exact hx z hz' i h1 h2
   ·exact hx y hy' i h2 h1
   ·exact ih.nne y hy' z hz' e i h1 h2
  ·intro y hy
   rcases List.mem_cons.1 hy with rfl | hy
   ·exact k.d.1
   ·exact ih.dds y hy
  ·intro t v hv
   simp only [AA] at hv
   split at hv
   ·rename_i hb; cases hv; exact .inl ⟨x, by simp, (Nat.eq_of_beq_eq_true hb).symm, rfl⟩
   ·rename_i hb
    rcases ih.look hv with ⟨y, hy, e⟩ | ⟨h1, h2⟩
    ·exact .inl ⟨y, by simp [hy], e⟩
    ·refine .inr ⟨fun y hy => ?_, h2⟩
     rcases List.mem_cons.1 hy with rfl | hy
     ·intro e; rw [e, Nat.beq_refl] at hb; cases hb
     ·exact h1 y hy
  ·intro g w h0 h1
   exact AC.appS (h1 x (by simp)) (ih.log h0 fun y hy => h1 y (by simp [hy])) (k.ep.elim (fun e => by rw [e]; exact k.e) fun e => .inl e)
theorem Ma.chain {nb0 nb : Nat} {L : List Ac} {tm : List (Nat × V)} {st : List E} (hG : Ma P cx l tm0 AO stO ds nb0 L tm st nb) {listed : Array Bool} (hcl : ∀ j oj, l[j]? = some oj → listed.getD j false = true → ∀ e ∈ oj.after, Region.binds .any e = true → listed.getD e.on false = true) :
  ∀ n, ∀ y ∈ L, y.i = n → ∀ x ∈ L, ∀ k, Pv k x → Pv k y → x.i < y.i → (listed.getD y.i false = true → listed.getD x.i false = true) ∧ x.e = [] ∧ y.nm = none ∧ y.r ≠ none := by
 intro n
 induction n using Nat.strongRecOn with
 | _ n ih =>
  intro y hy hyn x hx k htx hty hlt
  obtain ⟨B, nb1, nb2, hS, hB, _, hB2, hB3, hB4, hB5⟩ := hG.stp y hy
  have hxB := hB2 x hx hlt
  have hkl := hB3 x hxB k htx
  obtain ⟨o, tmI, ho, _, _, _, hop⟩ := hS.o
  rcases hty with h | ⟨E0, h⟩
  ·rcases hS.nm with ⟨e, _⟩ | ⟨e, _⟩
   ·rw [e] at h; cases h
   ·rw [e] at h; cases h; omega
  ·rcases hop with ⟨e, _⟩ | ⟨k', E', ent, e, e1, e2, e3, e4, e5⟩
   ·rw [e] at h; cases h
   ·rw [e] at h; cases h
    rcases hS.c with ⟨q, _⟩ | ⟨k', E', q, _, _, _, q5⟩
    ·rw [e] at q; cases q
    ·rw [e] at q; cases q
     rcases q5 with ⟨q6, ⟨q7, _⟩, q8⟩ | ⟨z, q6, q7, q8, q9⟩
     ·exfalso
      rcases htx with h | ⟨E1, h⟩
      ·have := (hG.nmb x hx _ h).1; omega
      ·exact OY q8 x hxB E1 h
     ·obtain ⟨a, b, hab, hz, hna⟩ := GI q6
      have hzB : z ∈ B := by rw [hab]; simp
      have hzl : listed.getD y.i false = true → listed.getD z.i false = true := fun hl => by
       obtain ⟨ed, he, hb, hon⟩ := C1 (e5 _ q7)
       rw [hS.idx] at hl
       have := hcl _ _ ho hl ed (by simpa using he) hb
       rwa [hon] at this
      refine ⟨fun hl => ?_, ?_, e1, by rw [q7]; simp⟩
      ·by_cases hxz : x = z
       ·rw [hxz]; exact hzl hl
       ·have hxb : x ∈ b := by
         rw [hab] at hxB
         rcases List.mem_append.1 hxB with h | h
         ·exact absurd htx (hna x h)
         ·rcases List.mem_cons.1 h with h | h
          ·exact absurd h hxz
          ·exact h
        exact (ih z.i (by have := (hB z hzB).2; omega) z (hB z hzB).1 rfl x hx k htx hz (hB5 a z b hab x hxb)).1 (hzl hl)
      ·by_cases hxz : x = z
       ·rw [hxz]; exact q9
       ·have hxb : x ∈ b := by
         rw [hab] at hxB
         rcases List.mem_append.1 hxB with h | h
         ·exact absurd htx (hna x h)
         ·rcases List.mem_cons.1 h with h | h
          ·exact absurd h hxz
          ·exact h
        exact (ih z.i (by have := (hB z hzB).2; omega) z (hB z hzB).1 rfl x hx k htx hz (hB5 a z b hab x hxb)).2.1
theorem Ma.noE {nb0 nb : Nat} {L : List Ac} {tm : List (Nat × V)} {st : List E} (hG : Ma P cx l tm0 AO stO ds nb0 L tm st nb) {x : Ac} (hx : x ∈ L) {k : Nat} (h : ¬ Pv k x) : Dt k x.p = true ∧ Dt k x.e = true := by
 obtain ⟨B, nb1, nb2, hS, _⟩ := hG.stp x hx
 have hp : Dt k x.p = true := by
  rcases hS.c with ⟨_, q⟩ | ⟨k', E', q, _, q2, _, _⟩
  ·exact q k fun e => h (.inl e)
  ·exact q2 k fun e => h (.inr ⟨E', by rw [e]; exact q⟩)
 refine ⟨hp, ?_⟩
 rcases hS.ep with e | e
 ·rw [e]; exact hp
 ·rw [e]; rfl
structure Qw (cx : Cx) (L : List Ac) (tm0 : List (Nat × V)) (AO : List E) (nbF : Nat) (g0 : G) (w0 : World) (listed : Array Bool) (a : Act) (w : World) (g : G) : Prop where
 ext : Ei cx.sp cx.m g0 w0 g w
 size : a.tmps.size = cx.N
 keep : ∀ {t v}, (∀ x ∈ L, x.d ≠ t) → AA t tm0 = some v → vrep cx.B g w v (a.tmps.getD t undef)
 done : ∀ x ∈ L, listed.getD x.i false = true → vrep cx.B g w x.v (a.tmps.getD x.d undef) ∧ (∀ e ∈ x.e, AC cx.B g w [e]) ∧ ∀ e ∈ x.vis, AC cx.B g w [e]
 st : AC cx.B g w AO
 inv : CG cx.B nbF g w
 marks : L0 cx g w a.defers
 free : ∀ x ∈ L, listed.getD x.i true = false → ∀ k, x.nm = some k → Mb g k
 con : ∀ x ∈ L, listed.getD x.i true = false → ∀ k E0, x.c = some (k, E0) → (∀ j, x.r = some j → listed.getD j false = true) → AC cx.B g w [E0]
 cl : ∀ x ∈ L, listed.getD x.i true = false → ∀ k E0, x.c = some (k, E0) → ∀ y ∈ L, listed.getD y.i false = true → ∀ e ∈ y.vis, Dt k [e] = true
theorem Pb {a : Act} {d t : Tmp} {u : Value} (h : d ≠ t) : (a.put (some d) u).tmps.getD t undef = a.tmps.getD t undef := by
 simp only [Act.put, Array.getD_eq_getD_getElem?]
 rw [Array.getElem?_setIfInBounds_ne h]
theorem JE {a : Act} {d : Tmp} {u : Value} (h : d < a.tmps.size) : (a.put (some d) u).tmps.getD d undef = u := by
 simp only [Act.put, Array.getD_eq_getD_getElem?]
 rw [Array.getElem?_setIfInBounds_self_of_lt h]; rfl
theorem G5 {F : Fence} {n : Nat} {ops : Array Oper} {Q' : Exit → Act → World → Prop} : ∀ (l : List Oper) (k : Nat) (listed : Array Bool) (a : Act) (w : World), (∀ j, l[j]? = ops[k + j]?) →
  Region.seqB .any ops l.length k listed = true → BH F n P ops Q' l a w → wpAnyIn F n P .any ops Q' l.length listed a w
 | [], _, _, _, _, _, hB, h => ⟨by simpa [Region.seqB] using hB, h⟩
 | o :: l, k, listed, a, w, hl, hB, h => by
  have h0 : ops[k]? = some o := by simpa using (hl 0).symm
  simp only [List.length_cons, Region.seqB, Bool.and_eq_true, decide_eq_true_eq] at hB
  refine ⟨fun h1 => (by rw [hB.1] at h1; cases h1), fun i hi => ?_⟩
  rw [hB.1] at hi
  have hik : i = k := by simpa using hi
  subst hik
  have hw : wpOpIn F n P ops Q' i (BH F n P ops Q' l) a w := by unfold wpOpIn; simp only [h0]; exact h
  exact wpOpIn_mono (fun a' w' h' => G5 l (i + 1) _ a' w' (fun j => by have := hl (j + 1); simpa [Nat.add_assoc, Nat.add_comm 1 j] using this) hB.2 h') hw
theorem Di {listed : Array Bool} {i : Nat} (hi : i < listed.size) : listed.getD i false = listed.getD i true := by simp [hi]
theorem Qw.step {nb0 nbF n m : Nat} {L : List Ac} {tm : List (Nat × V)} {st : List E} {g0 : G} {w0 : World} {listed : Array Bool} {a : Act} {w : World} {g : G} {Q : Exit → Act → World → Prop}
  (hG : Ma P cx l tm0 AO stO ds nb0 L tm st nbF) (hL : L.length = n) (hi : HeadInv .any l.toArray n listed) (h : Qw cx L tm0 AO nbF g0 w0 listed a w g) {i : Nat} (hr : i ∈ Region.ready .any l.toArray listed) (hin : i < n) {K : Act → World → Prop}
  (hK : ∀ a' w' g', Qw cx L tm0 AO nbF g0 w0 (listed.setIfInBounds i true) a' w' g' → K a' w') : wpOpIn (FW cx.rd) m P l.toArray Q i K a w := by
 obtain ⟨x, hx, hxi⟩ := hG.idx i (by omega)
 obtain ⟨B, nb1, nb2, hS, hB, _⟩ := hG.stp x hx
 obtain ⟨o, tmI, ho, hsel, hvis, hod, hop⟩ := hS.o
 have hBi : B.length = i := hS.idx.symm.trans hxi
 rw [hBi] at ho
 obtain ⟨hun, o', ho', hall⟩ := mem_ready.1 hr
 have hoo : o' = o := by rw [List.getElem?_toArray, ho] at ho'; exact (Option.some.inj ho').symm
 subst hoo
 have hlL : ∀ z ∈ L, z.i < l.length := fun z hz => by
  obtain ⟨B', _, _, k, _⟩ := hG.stp z hz
  obtain ⟨o2, _, k2, _⟩ := k.o
  rw [k.idx]; exact (List.getElem?_eq_some_iff.1 k2).1
 have hsz : ∀ y ∈ L, y.i < listed.size := fun y hy => by
  rw [hi.size]; simpa using hlL y hy
 have hdir0 : ∀ j, E8 j o'.after.toList = true → listed.getD j false = true := fun j hm => by
  obtain ⟨e, he, hb, hon⟩ := C1 hm
  have := hall e (by simpa using he) hb
  rwa [hon] at this
 have hdir : ∀ y ∈ L, E8 y.i o'.after.toList = true → listed.getD y.i false = true := fun y _ hm => hdir0 _ hm
 have hcl0 : ∀ j oj, l[j]? = some oj → listed.getD j false = true → ∀ e ∈ oj.after, Region.binds .any e = true → listed.getD e.on false = true := fun j oj hj => hi.closed j oj (by rw [List.getElem?_toArray]; exact hj)
 have hcl1 : ∀ j oj, l[j]? = some oj → (listed.setIfInBounds i true).getD j false = true → ∀ e ∈ oj.after, Region.binds .any e = true → (listed.setIfInBounds i true).getD e.on false = true := fun j oj hj => (hi.set hr hin).closed j oj (by rw [List.getElem?_toArray]; exact hj)
 have hfree : ∀ k, x.nm = some k → k < nbF ∧ Mb g k := fun k hk => ⟨(hG.nmb x hx k hk).2, h.free x hx (by rw [hxi]; exact hun) k hk⟩
 have hsim : Dg cx g a w ⟨tmI, x.vis ++ AO, nbF⟩ := by
  refine ⟨h.size, fun {t v} ht => ?_, AC.app (fun e he => ?_) h.st, h.inv, h.marks⟩
  ·rcases MC hsel ht with ⟨y, hy, e1, e2, hm⟩ | ⟨hd, ht⟩
   ·rw [← e1, ← e2]; exact (h.done y (hB y hy).1 (hdir y (hB y hy).1 hm)).1
   ·exact h.keep (fun y hy e => by have := hG.dds y hy; rw [e, hd] at this; cases this) ht
  ·obtain ⟨y, hy, hm, k⟩ := FX hvis e he
   have hdn := h.done y (hB y hy).1 (hdir y (hB y hy).1 hm)
   rcases k with k | k
   ·exact hdn.2.1 e k
   ·exact hdn.2.2 e k
 unfold wpOpIn
 simp only [List.getElem?_toArray, ho]
 have hset : ∀ {y : Ac}, y.i ≠ x.i → ∀ b, (listed.setIfInBounds i true).getD y.i b = listed.getD y.i b := fun {y} e b => getD_set_ne b (by rw [← hxi]; exact fun e' => e e'.symm)
 have hself : ∀ {y : Ac}, y ∈ L → y.i = x.i → ∀ b, (listed.setIfInBounds i true).getD y.i b = true := fun {y} hy e b => by
  rw [e, hxi]
  have : i < listed.size := by rw [← hxi]; exact hsz x hx
  simp [this]
 have hzE : ∀ y ∈ L, listed.getD y.i true = false → ∀ k E0, y.c = some (k, E0) → ∀ z ∈ L, listed.getD z.i false = true → Dt k z.e = true := fun y hy hyl k E0 hc z hz hzl => by
  by_cases ht : Pv k z
  ·rcases Nat.lt_trichotomy z.i y.i with hlt | heq | hgt
   ·rw [(hG.chain hcl0 _ y hy rfl z hz k ht (.inr ⟨E0, hc⟩) hlt).2.1]; rfl
   ·have := hG.one z hz y hy heq; subst this
    rw [Di (hsz z hz), hyl] at hzl; cases hzl
   ·have := (hG.chain hcl0 _ z hz rfl y hy k (.inr ⟨E0, hc⟩) ht hgt).1 hzl
    rw [Di (hsz y hy), hyl] at this; cases this
  ·exact (hG.noE hz ht).2
 have hvisn : ∀ {k : Nat}, (∀ z ∈ L, listed.getD z.i false = true → Dt k z.e = true) → (∀ z ∈ L, listed.getD z.i false = true → ∀ e ∈ z.vis, Dt k [e] = true) → ∀ e ∈ x.vis, Dt k [e] = true := fun {k} h1 h2 e he => by
  obtain ⟨z, hz, hm, q⟩ := FX hvis e he
  have hd := hdir z (hB z hz).1 hm
  rcases q with q | q
  ·exact IZ (h1 z (hB z hz).1 hd) e q
  ·exact h2 z (hB z hz).1 hd e q
 have hcl : ∀ y ∈ L, (listed.setIfInBounds i true).getD y.i true = false → ∀ k E0, y.c = some (k, E0) → ∀ z ∈ L, (listed.setIfInBounds i true).getD z.i false = true → ∀ e ∈ z.vis, Dt k [e] = true := fun y hy hl k E0 hc z hz hzl => by
  have hyx : y.i ≠ x.i := fun e => by rw [hself hy e] at hl; cases hl
  rw [hset hyx] at hl
  by_cases e : z.i = x.i
  ·have := hG.one z hz x hx e
   subst this
   exact hvisn (fun z' hz' hl' => hzE y hy hl k E0 hc z' hz' hl') fun z' hz' hl' => h.cl y hy hl k E0 hc z' hz' hl'
  ·rw [hset e] at hzl
   exact h.cl y hy hl k E0 hc z hz hzl
 have hprod : ∀ y ∈ L, ∀ k E1, y.c = some (k, E1) → ∀ j, y.r = some j → ∃ z ∈ L, z.i = j ∧ z.p = [E1] ∧ Pv k z ∧ z.i < y.i ∧ ∀ u ∈ L, u.i < y.i → Pv k u → u.i ≤ z.i := fun y hy k E1 hc j hj => by
  obtain ⟨B', m1, m2, kS, kB, _, kB2, _, _, kB5⟩ := hG.stp y hy
  rcases kS.c with ⟨q, _⟩ | ⟨k', E', q, _, _, _, q5⟩
  ·rw [hc] at q; cases q
  ·rw [hc] at q; cases q
   rcases q5 with ⟨q6, _⟩ | ⟨z, q6, q7, q8, q9⟩
   ·rw [hj] at q6; cases q6
   ·rw [hj] at q7; cases q7
    obtain ⟨a1, b1, hab, hzt, hna⟩ := GI q6
    have hzB : z ∈ B' := by rw [hab]; simp
    refine ⟨z, (kB z hzB).1, rfl, q8, hzt, (kB z hzB).2, fun u hu hlt hut => ?_⟩
    have huB := kB2 u hu hlt
    rw [hab] at huB
    rcases List.mem_append.1 huB with h | h
    ·exact absurd hut (hna u h)
    ·rcases List.mem_cons.1 h with h | h
     ·subst h; exact Nat.le_refl _
     ·exact Nat.le_of_lt (kB5 a1 z b1 hab u h)
 rcases hop with ⟨hxc, hop⟩ | ⟨k, E0, ent, hxc, hnm, hxp, hw, hop, hxr⟩
 ·refine hop m nbF g a w K Q hfree hsim fun u g' w' hN hSe hI hv => ?_
  have hfr := fun i (hi : x.nm = some i) => (hfree i hi).2
  have hput : ∀ {t : Nat}, x.d ≠ t → (a.put o'.dst u).tmps.getD t undef = a.tmps.getD t undef := fun {t} ht => by
   rcases hod with ⟨hod, _⟩ | ⟨hod, _⟩
   ·rw [hod]; exact Pb ht
   ·rw [hod]; rfl
  have hslot : vrep cx.B g' w' x.v ((a.put o'.dst u).tmps.getD x.d undef) := by
   rcases hod with ⟨hod, hdN⟩ | ⟨_, hod⟩
   ·rw [hod, JE (by rw [h.size]; exact hdN)]; exact hv
   ·rw [hod]; simp only [vrep, drep]
  have hpd : (a.put o'.dst u).defers = a.defers := by cases o'.dst <;> rfl
  have hps : (a.put o'.dst u).tmps.size = a.tmps.size := by cases o'.dst <;> simp [Act.put]
  refine hK _ _ g' ⟨h.ext.trans hN.evo, by rw [hps, h.size], fun {t v} ht hl => ?_, fun y hy hl => ?_, h.st.newO hN h.inv hfr, hI, by rw [hpd]; exact h.marks.evo hN.evo, fun y hy hl k hk => ?_, fun y hy hl k E1 hc hcond => ?_, hcl⟩
  ·rw [hput (ht x hx)]; exact hN.evo.vrep (h.keep ht hl)
  ·by_cases e : y.i = x.i
   ·have := hG.one y hy x hx e
    subst this
    refine ⟨hslot, fun e he => ?_, fun e he => ?_⟩
    ·rcases hS.ep with h0 | h0
     ·rw [h0] at he
      rcases hS.e with h0 | ⟨e1, h1⟩
      ·rw [h0] at he; simp at he
      ·rw [h1] at he hSe; simp at he; subst he; exact hSe
     ·rw [h0] at he; simp at he
    ·obtain ⟨z, hz, hm, k⟩ := FX hvis e he
     have hdn := h.done z (hB z hz).1 (hdir z (hB z hz).1 hm)
     rcases k with k | k
     ·exact (hdn.2.1 e k).newO hN h.inv hfr
     ·exact (hdn.2.2 e k).newO hN h.inv hfr
   ·rw [hset e] at hl
    obtain ⟨k1, k2, k3⟩ := h.done y hy hl
    exact ⟨by rw [hput (hG.dne x hx y hy fun e' => e e'.symm)]; exact hN.evo.vrep k1, fun e he => (k2 e he).newO hN h.inv hfr, fun e he => (k3 e he).newO hN h.inv hfr⟩
  ·by_cases e : y.i = x.i
   ·rw [hself hy e] at hl; cases hl
   ·rw [hset e] at hl
    have hf := h.free y hy hl k hk
    have hs := hN.same k fun e' => hG.nne x hx y hy (fun e' => e e'.symm) k e'.symm hk
    exact ⟨by rw [hs.1]; exact hf.1, by rw [hs.2.1]; exact hf.2.1, fun i => by rw [hs.2.2]; exact hf.2.2 i⟩
  ·by_cases e : y.i = x.i
   ·rw [hself hy e] at hl; cases hl
   ·rw [hset e] at hl
    by_cases hj : ∃ j, y.r = some j ∧ j = x.i
    ·obtain ⟨j, hj, hjx⟩ := hj
     obtain ⟨z, hz, hzi, hzp, _⟩ := hprod y hy k E1 hc j hj
     have := hG.one z hz x hx (hzi.trans hjx)
     subst this
     rw [hzp] at hSe; exact hSe
    ·refine (h.con y hy hl k E1 hc fun j hj' => ?_).newO hN h.inv hfr
     obtain ⟨z, hz, hzi, _⟩ := hprod y hy k E1 hc j hj'
     have h1 := hcond j hj'
     rw [← hzi] at h1 ⊢
     rwa [hset (fun e2 => hj ⟨j, hj', hzi.symm.trans e2⟩)] at h1
 ·have hxl : listed.getD x.i true = false := by rw [hxi]; exact hun
  have hx0 : AC cx.B g w [E0] := h.con x hx hxl k E0 hxc fun j hj => hdir0 j (hxr j hj)
  have hst0 : Dt k AO = true := by
   rcases hS.c with ⟨q, _⟩ | ⟨k', E', q, q2, _⟩
   ·rw [hxc] at q; cases q
   ·rw [hxc] at q; cases q; exact q2
  have hxt : Pv k x := .inr ⟨E0, hxc⟩
  have hxe : ∀ k', Pv k' x → k' = k := fun k' ht => by
   rcases ht with h | ⟨_, h⟩
   ·rw [hnm] at h; cases h
   ·rw [hxc] at h; cases h; rfl
  have hahead : ∀ y ∈ L, Pv k y → y.i < x.i → listed.getD y.i false = true := fun y hy ht hlt => by
   have h1 := (hG.chain hcl1 _ x hx rfl y hy k ht hxt hlt).1 (hself hx rfl _)
   rwa [hset (by omega)] at h1
  rw [if_pos (Wd.wanted (s := ⟨tmI, x.vis ++ AO, nbF⟩) hsim hw)]
  refine hop m nbF g a w K Q ⟨hsim.size, hsim.tm, AC.cons hx0 hsim.st, hsim.inv, hsim.defers⟩ hx0 fun u g' w' hE hsame hpres hent hI hv => ?_
  have hput : ∀ {t : Nat}, x.d ≠ t → (a.put o'.dst u).tmps.getD t undef = a.tmps.getD t undef := fun {t} ht => by
   rcases hod with ⟨hod, _⟩ | ⟨hod, _⟩
   ·rw [hod]; exact Pb ht
   ·rw [hod]; rfl
  have hslot : vrep cx.B g' w' x.v ((a.put o'.dst u).tmps.getD x.d undef) := by
   rcases hod with ⟨hod, hdN⟩ | ⟨_, hod⟩
   ·rw [hod, JE (by rw [h.size]; exact hdN)]; exact hv
   ·rw [hod]; simp only [vrep, drep]
  have hpd : (a.put o'.dst u).defers = a.defers := by cases o'.dst <;> rfl
  have hps : (a.put o'.dst u).tmps.size = a.tmps.size := by cases o'.dst <;> simp [Act.put]
  have hoth := fun z hz hl => hzE x hx hxl k E0 hxc z hz hl
  have hvn := hvisn (k := k) hoth fun z hz hl => h.cl x hx hxl k E0 hxc z hz hl
  refine hK _ _ g' ⟨h.ext.trans hE, by rw [hps, h.size], fun {t v} ht hl => ?_, fun y hy hl => ?_, hpres _ hst0 h.st, hI, by rw [hpd]; exact h.marks.evo hE, fun y hy hl j hj => ?_, fun y hy hl k' E1 hc hcond => ?_, hcl⟩
  ·rw [hput (ht x hx)]; exact hE.vrep (h.keep ht hl)
  ·by_cases e : y.i = x.i
   ·have := hG.one y hy x hx e
    subst this
    refine ⟨hslot, fun e he => ?_, fun e he => ?_⟩
    ·rcases hS.ep with h0 | h0
     ·rw [h0, hxp] at he; simp at he; subst he; exact hent
     ·rw [h0] at he; simp at he
    ·refine hpres _ (hvn e he) ?_
     obtain ⟨z, hz, hm, q⟩ := FX hvis e he
     have hdn := h.done z (hB z hz).1 (hdir z (hB z hz).1 hm)
     rcases q with q | q
     ·exact hdn.2.1 e q
     ·exact hdn.2.2 e q
   ·rw [hset e] at hl
    obtain ⟨k1, k2, k3⟩ := h.done y hy hl
    exact ⟨by rw [hput (hG.dne x hx y hy fun e' => e e'.symm)]; exact hE.vrep k1, fun e' he => hpres _ (IZ (hoth y hy hl) e' he) (k2 e' he), fun e' he => hpres _ (h.cl x hx hxl k E0 hxc y hy hl e' he) (k3 e' he)⟩
  ·by_cases e : y.i = x.i
   ·rw [hself hy e] at hl; cases hl
   ·rw [hset e] at hl
    have hf := h.free y hy hl j hj
    have hjk : j ≠ k := fun e2 => by
     subst e2
     rcases Nat.lt_or_ge y.i x.i with hlt | hge
     ·have := hahead y hy (.inl hj) hlt
      rw [Di (hsz y hy), hl] at this; cases this
     ·have := (hG.chain hcl0 _ y hy rfl x hx j hxt (.inl hj) (by omega)).2.2.1
      rw [hj] at this; cases this
    have hs := hsame j hjk
    exact ⟨by rw [hs.1]; exact hf.1, by rw [hs.2.1]; exact hf.2.1, fun i => by rw [hs.2.2]; exact hf.2.2 i⟩
  ·by_cases e : y.i = x.i
   ·rw [hself hy e] at hl; cases hl
   ·rw [hset e] at hl
    have hE1 : ∀ k'', k'' ≠ k' → Dt k'' [E1] = true := by
     obtain ⟨B', _, _, kS, _⟩ := hG.stp y hy
     rcases kS.c with ⟨q, _⟩ | ⟨k2, E', q, _, _, q4, _⟩
     ·rw [hc] at q; cases q
     ·rw [hc] at q; cases q; exact q4
    by_cases hkk : k' = k
    ·subst hkk
     rcases Nat.lt_or_ge y.i x.i with hlt | hge
     ·have := hahead y hy (.inr ⟨E1, hc⟩) hlt
      rw [Di (hsz y hy), hl] at this; cases this
     ·obtain ⟨j, hj⟩ := Option.ne_none_iff_exists'.1 (hG.chain hcl0 _ y hy rfl x hx k' hxt (.inr ⟨E1, hc⟩) (by omega)).2.2.2
      obtain ⟨z, hz, hzi, hzp, hzt, hzy, hzm⟩ := hprod y hy k' E1 hc j hj
      by_cases hzx : z = x
      ·subst hzx
       rw [hxp] at hzp; cases hzp; exact hent
      ·have hlt : x.i < z.i := by
        have h1 := hzm x hx (by omega) hxt
        have h2 : x.i ≠ z.i := fun e => hzx (hG.one z hz x hx e.symm)
        omega
       have h1 := hcond j hj
       rw [← hzi, hset (by omega)] at h1
       have := (hG.chain hcl0 _ z hz rfl x hx k' hxt hzt hlt).1 h1
       rw [Di (hsz x hx), hxl] at this; cases this
    ·refine hpres _ (hE1 k fun e2 => hkk e2.symm) (h.con y hy hl k' E1 hc fun j hj => ?_)
     obtain ⟨z, hz, hzi, _, hzt, _⟩ := hprod y hy k' E1 hc j hj
     have h1 := hcond j hj
     rw [← hzi] at h1 ⊢
     rwa [hset (fun e2 => hkk (hxe k' (by rw [← hG.one z hz x hx e2]; exact hzt)))] at h1
theorem Qw.all {nb0 nbF n m : Nat} {L : List Ac} {tm : List (Nat × V)} {st : List E} {g0 : G} {w0 : World} {Q : Exit → Act → World → Prop}
  (hG : Ma P cx l tm0 AO stO ds nb0 L tm st nbF) (hL : L.length = n) (hn : n ≤ l.length) (hs : n = l.length ∨ (n < l.length ∧ Region.sinkB .any l.toArray n = true ∧ Region.chainB .any l.toArray n = true))
  (hseq : Region.seqB .any l.toArray (l.length - n) n (Ge l.length n) = true) (hlt : ∀ i o, i < n → l[i]? = some o → ∀ e ∈ o.after, Region.binds .any e = true → e.on < i)
  (hT : ∀ g a w, Ei cx.sp cx.m g0 w0 g w → Dg cx g a w ⟨tm, st, nbF⟩ → BH (FW cx.rd) m P l.toArray Q (l.drop n) a w) :
  ∀ (f : Nat) (listed : Array Bool) (a : Act) (w : World) (g : G), HeadInv .any l.toArray n listed → un listed n = f → Qw cx L tm0 AO nbF g0 w0 listed a w g → wpAnyIn (FW cx.rd) m P .any l.toArray Q (f + (l.length - n)) listed a w := by
 intro f
 induction f with
 | zero =>
  intro listed a w g inv hu h
  rw [Nat.zero_add]
  have hls := Sw inv hu
  have hd : ∀ x ∈ L, listed.getD x.i false = true := fun x hx => by
   have h1 := Km hu x.i (by have := hG.ilt x hx; omega)
   have h2 : x.i < listed.size := by have := hG.ilt x hx; rw [inv.size]; simp; omega
   rw [Di h2]; exact h1
  have hsim : Dg cx g a w ⟨tm, st, nbF⟩ := by
   refine ⟨h.size, fun {t v} ht => ?_, hG.log h.st fun x hx => ?_, h.inv, h.marks⟩
   ·rcases hG.look ht with ⟨x, hx, e1, e2⟩ | ⟨h1, h2⟩
    ·rw [← e1, ← e2]; exact (h.done x hx (hd x hx)).1
    ·exact h.keep h1 h2
   ·have := AC.app (h.done x hx (hd x hx)).2.1 AC.nil
    simpa using this
  have := G5 (F := FW cx.rd) (n := m) (P := P) (Q' := Q) (l.drop n) n listed a w (fun j => by simp [List.getElem?_drop]) (by rw [hls]; simpa using hseq) (hT g a w h.ext hsim)
  simpa using this
 | succ f ih =>
  intro listed a w g inv hu h
  have hne : Region.ready .any l.toArray listed ≠ [] := by
   have : ∀ d i, d = i → i < n → listed.getD i true = false → ∃ j, j ∈ Region.ready .any l.toArray listed := by
    intro d
    induction d using Nat.strongRecOn with
    | _ d ihd =>
     intro i hdi hi hun
     have ho : l[i]? = some (l[i]'(by omega)) := List.getElem?_eq_getElem (by omega)
     by_cases hall : ∀ e ∈ (l[i]'(by omega)).after, Region.binds .any e = true → listed.getD e.on false = true
     ·exact ⟨i, mem_ready.2 ⟨hun, _, by simp only [List.getElem?_toArray]; exact ho, hall⟩⟩
     ·simp only [Classical.not_forall] at hall
      obtain ⟨e, he, hb, hu⟩ := hall
      have hlt' := hlt i _ hi ho e he hb
      exact ihd e.on (by omega) e.on rfl (by omega) (by
       have h2 : e.on < listed.size := by rw [inv.size]; simp; omega
       rw [← Di h2]; simpa using hu)
   obtain ⟨i0, hi0, hun⟩ := Nf (l := listed) (k := n) (by omega)
   obtain ⟨j, hj⟩ := this i0 i0 rfl hi0 hun
   intro e; rw [e] at hj; cases hj
  rw [show f + 1 + (l.length - n) = (f + (l.length - n)) + 1 from by omega]
  refine ⟨fun h0 => absurd h0 hne, fun i hi => ?_⟩
  have hin : i < n := by
   rcases hs with rfl | ⟨hn', hs, hc⟩
   ·obtain ⟨_, o, ho, _⟩ := mem_ready.1 hi
    simpa using (Array.getElem?_eq_some_iff.1 ho).1
   ·rcases Nat.lt_or_ge i n with h' | h'
    ·exact h'
    ·obtain ⟨i0, hi0, hun⟩ := Nf (l := listed) (k := n) (by omega)
     exact absurd hi (tail_waits hs hc (by simpa using hn') inv _ i0 rfl hi0 hun i h')
  refine Qw.step hG hL inv h hi hin fun a' w' g' h' => ih _ a' w' g' (inv.set hi hin) ?_ h'
  have := PC (mem_ready.1 hi).1 n hin
  omega
end
def VD (P : Program) (cx : Cx) (l : List Oper) (tm0 : List (Nat × V)) (AO stO : List E) (nb0 : Nat) (ds : List Nat) (Q : VE → St → Prop) (hd tl : List Oper) (i : Nat) (acc : List Ac) (tm : List (Nat × V)) (st : List E) (nb : Nat) : Prop :=
 i = acc.length → l = l.take acc.length ++ (hd ++ tl) → acc.length ≤ l.length → Qv P cx l tm0 AO stO ds nb0 acc tm st nb →
  ∃ L tmF stF nbF, Qv P cx l tm0 AO stO ds nb0 L tmF stF nbF ∧ L.length = acc.length + hd.length ∧ VL P cx l tl ⟨tmF, stF, nbF⟩ Q
def Hh : Nat → List Oper → Option (List Oper × List Oper)
 | 0, l => some ([], l)
 | _ + 1, [] => none
 | n + 1, o :: l => match Hh n l with
  | none => none
  | some (a, b) => some (o :: a, b)
theorem JV : ∀ {n : Nat} {l a b : List Oper}, Hh n l = some (a, b) → l = a ++ b ∧ a.length = n
 | 0, l, a, b, h => by simp only [Hh, Option.some.injEq, Prod.mk.injEq] at h; obtain ⟨rfl, rfl⟩ := h; simp
 | n + 1, [], a, b, h => by simp [Hh] at h
 | n + 1, o :: l, a, b, h => by
  simp only [Hh] at h
  split at h
  ·cases h
  ·rename_i a' b' hr
   cases h
   have := JV hr
   exact ⟨by rw [this.1]; rfl, by simp [this.2]⟩
section
variable {P : Program} {cx : Cx} {l : List Oper} {tm0 : List (Nat × V)} {AO stO : List E} {nb0 : Nat} {ds : List Nat} {Q : VE → St → Prop} {hd tl : List Oper} {i : Nat} {acc : List Ac} {tm : List (Nat × V)} {st : List E} {nb : Nat}
theorem WE (h : VL P cx l tl ⟨tm, st, nb⟩ Q) : VD P cx l tm0 AO stO nb0 ds Q [] tl i acc tm st nb := fun _ _ _ hG => ⟨acc, tm, st, nb, hG, by simp, h⟩
theorem EA {o : Oper} {d : Nat} {v : V} {e p vis : List E} {nm : Option Nat} {nb' : Nat} {tmI : List (Nat × V)} (k : VD P cx l tm0 AO stO nb0 ds Q hd tl (i + 1) (⟨i, d, v, e, vis, nm, none, p, none⟩ :: acc) ((d, v) :: tm) (e ++ st) nb') (ho : (o.dst = some d ∧ d < cx.N) ∨ (o.dst = none ∧ v = .d .any)) (hds : C5 d ds = true) (hfa : CM d acc = none)
  (hsel : ED o.after.toList ds acc tm0 (gT l o ++ TD o) = some tmI) (hvis : E3 acc o.after.toList = some vis) (hop : Px P cx l o tmI (vis ++ AO) nm v p) (hnm : (nm = none ∧ nb' = nb ∧ p = []) ∨ (nm = some nb ∧ nb' = nb + 1)) (hpp : p = [] ∨ ∃ e', p = [e']) (hrb : JC nb p = true) (hep : e = p ∨ e = []) :
  VD P cx l tm0 AO stO nb0 ds Q (o :: hd) tl i acc tm st nb := fun hi hl hle hG => by
 have hlen : acc.length < l.length := by
  have := congrArg List.length hl
  simp at this; omega
 have hget : l[acc.length]? = some o := by
  rw [hl, List.getElem?_append_right (by simp; omega)]
  simp [Nat.min_eq_left hle]
 have hS : Stp P cx l tm0 AO stO ds nb0 acc ⟨i, d, v, e, vis, nm, none, p, none⟩ nb nb' := ⟨⟨o, tmI, hget, hsel, hvis, ho, .inl ⟨rfl, hop⟩⟩, hep, .inl ⟨rfl, fun k hk => by
  rcases hnm with ⟨_, _, e⟩ | ⟨e, _⟩
  ·simp only [e, Dt]
  ·exact HV (fun e2 => hk (by rw [e, e2])) hrb⟩, hi, ⟨hds, hfa⟩, hnm.imp (fun h => ⟨h.1, h.2.1⟩) id, hpp⟩
 obtain ⟨L, a1, a2, a3, h1, h2, h3⟩ := k (by simp [hi]) (by
  have h4 : l.take (acc.length + 1) = l.take acc.length ++ [o] := by rw [List.take_add_one, hget]; rfl
  simp only [List.length_cons, h4]
  rw [List.append_assoc]; exact hl) (by simp; omega) (.cons hG hS)
 exact ⟨L, a1, a2, a3, h1, by rw [h2]; simp; omega, h3⟩
theorem Oc {id : Nat} {s : St} {AO : List E} (n : Nat) (hst0 : ∀ B g w, AC B g w s.st → AC B g w AO) (hB : RJ l n = true) (hm : P.follows .mixedOrders = true) {hd tl : List Oper} (hsp : Hh n l = some (hd, tl)) (h : VD P cx l s.tm AO s.st s.nb (X6 hd) Q hd tl 0 [] s.tm AO s.nb) : VW P cx (.region id l.toArray true) s Q := fun m g0 w0 g a w hE hS => by
 obtain ⟨hsp1, hsp2⟩ := JV hsp
 simp only [RJ, Bool.and_eq_true, Bool.or_eq_true, decide_eq_true_eq, List.all_eq_true, List.mem_range] at hB
 obtain ⟨⟨⟨h1, h2⟩, h3⟩, h4⟩ := hB
 obtain ⟨L, tmF, stF, nbF, hG, hL, hT⟩ := h rfl (by simpa using hsp1) (Nat.zero_le _) .nil
 have hL' : L.length = n := by simpa [hsp2] using hL
 have htl : tl = l.drop n := by rw [hsp1, ← hsp2]; simp
 have hN : Qt cx.B g w g w.drew none := ⟨⟨rfl, rfl, rfl, Nat.le_refl _, fun h => h, fun h => h, fun _ _ h => ⟨h, rfl⟩, fun _ h => h, fun _ _ => rfl, .refl⟩, fun _ _ => rfl, fun _ _ => ⟨rfl, rfl, rfl⟩⟩
 have hF := hG.facts
 have inv0 : HeadInv .any l.toArray n (Array.replicate l.toArray.size false) :=
  ⟨by simp, fun j oj _ hl => (by rw [getD_replicate_false] at hl; cases hl), fun t _ ht => getD_in (by simpa using ht) (getD_replicate_false _ _)⟩
 refine wpIn_region_any hm ?_
 have := Qw.all (m := m) (g0 := g0) (w0 := w0) (Q := EY cx g0 w0 Q) hF hL' h1 (by rcases h2 with h | ⟨⟨a, b⟩, c⟩; exact .inl h; exact .inr ⟨a, b, c⟩) h3 (fun i o hi ho e he hb => by
  have := h4 i hi
  rw [ho] at this
  simp only [Option.map_some, Option.getD_some, List.all_eq_true, Bool.or_eq_true, Bool.not_eq_true', decide_eq_true_eq] at this
  exact (this e (by simpa using he)).resolve_left (by rw [hb]; simp)) (fun g a w hE hS => by rw [← htl]; exact hT m g0 w0 g a w hE hS) n (Array.replicate l.toArray.size false) a w.drew g inv0 (Ng _ _ (by simpa using h1)) ⟨hE.trans hN.evo, hS.size, fun _ ht => hN.evo.vrep (hS.tm ht), fun x _ hl => (by rw [getD_replicate_false] at hl; cases hl), (hst0 _ _ _ hS.st).newO hN hS.inv (fun _ h => by cases h), (hS.inv.evo (w' := w.drew) (Nat.le_refl _)).up hF.up, hS.defers.evo hN.evo, fun x hx _ k hk => ?_, ?con, fun x hx _ k E0 hc y hy hl => (by rw [getD_replicate_false] at hl; cases hl)⟩
 ·rw [show n + (l.length - n) = l.toArray.size from by simp; omega] at this
  exact this
 ·have := (hF.nmb x hx k hk).1
  refine ⟨?_, ?_, fun i => ?_⟩
  ·cases e : g.bx k with
   | none => rfl
   | some b => have := (hS.inv.bxlt e).2; omega
  ·cases e : g.rb k with
   | none => rfl
   | some b => have := (hS.inv.rblt e).2; omega
  ·cases e : g.rw k i with
   | none => rfl
   | some b => have := hS.inv.rwlt e; omega
 case con =>
  intro x hx _ k E0 hc hcond
  obtain ⟨B', _, _, kS, _⟩ := hF.stp x hx
  have hE0 : EOk s.st k E0 := by
   rcases kS.c with ⟨q, _⟩ | ⟨k2, E', q, _, _, _, q5⟩
   ·rw [hc] at q; cases q
   ·rw [hc] at q; cases q
    rcases q5 with ⟨_, ⟨_, q6⟩, _⟩ | ⟨z, _, q7, _⟩
    ·exact q6
    ·have := hcond _ q7; rw [getD_replicate_false] at this; cases this
  rcases hE0 with ⟨nw, ver, e, sz, lr, rfl, hr⟩ | ⟨off, vs, rfl, hr⟩
  rotate_left
  ·refine AC.newO (nb := s.nb) (k := none) hN hS.inv (fun _ h => by cases h) ⟨fun {i o v} h => ?_, fun h => by simp [Az] at h, fun h => by simp [Au] at h⟩
   simp only [Aq] at h
   split at h
   ·rename_i hb
    have := Nat.eq_of_beq_eq_true hb
    subst this
    split at h
    ·rename_i ho
     have ho := Nat.le_of_ble_eq_true ho
     split at h
     ·rename_i v' hv'
      cases h
      have := hr _ _ hv'
      rw [show off + (o - off) = o by omega] at this
      exact hS.st.cell this
     ·cases h
    ·cases h
   ·cases h
  ·refine AC.newO (nb := s.nb) (k := none) hN hS.inv (fun _ h => by cases h) ⟨fun h => by simp [Aq] at h, fun {i o nw' ver' e' sz' l'} h => ?_, fun h => by simp [Au] at h⟩
   simp only [Az] at h
   split at h
   ·rename_i hb
    have := Nat.eq_of_beq_eq_true hb
    subst this
    cases h
    exact hS.st.row hr
   ·cases h
theorem Wt {id : Nat} {s : St} (n : Nat) (hB : RJ l n = true) (hm : P.follows .mixedOrders = true) {hd tl : List Oper} (hsp : Hh n l = some (hd, tl)) (h : VD P cx l s.tm s.st s.st s.nb (X6 hd) Q hd tl 0 [] s.tm s.st s.nb) : VW P cx (.region id l.toArray true) s Q := Oc n (fun _ _ _ h => h) hB hm hsp h
theorem Ws {id : Nat} {a : Array Oper} {s : St} (h : VW P cx (.region id a true) s Q) : VW P cx (.region id a true) s Q := h
theorem QK (h : VD P cx l tm0 AO stO nb0 ds Q hd tl i acc tm st nb) : VD P cx l tm0 AO stO nb0 ds Q hd tl i acc tm st nb := h
def K4 (d : Nat) : List Oper → Bool
 | [] => false
 | ⟨_, .call c, _, _, _, _⟩ :: r => (match c.callee with
  | .builtin .append => (match c.args.toList with
   | .tmp t :: _ => (match Nat.beq t d with
    | true => true
    | false => K4 d r)
   | _ => K4 d r)
  | _ => K4 d r)
 | _ :: r => K4 d r
variable {gd : Option (Nat × Bool)}
theorem WF {d : Tmp} {op : Op} {ty : TypeId} {pos : String} {af : Array Edge} {j : Nat} {bw : Bool} {t : Nat} {b : Bool} (h1 : b = true → VD P cx l tm0 AO stO nb0 ds Q (⟨some d, op, ty, pos, af, some (j, bw)⟩ :: hd) tl i acc tm st nb) (h2 : b = false → VD P cx l tm0 AO stO nb0 ds Q (⟨some d, op, ty, pos, af, some (j, bw)⟩ :: hd) tl i acc tm st nb)
  (_ht : (l[j]?).bind (·.dst) = some t := by rfl) (_hv : AA t tm = some (.d (.lit (.bool b))) := by rfl) : VD P cx l tm0 AO stO nb0 ds Q (⟨some d, op, ty, pos, af, some (j, bw)⟩ :: hd) tl i acc tm st nb := by
 cases hb : b with
 | true => exact h1 hb
 | false => exact h2 hb
theorem Zm {d : Tmp} {op : Op} {ty : TypeId} {pos : String} {af : Array Edge} {j : Nat} {bw : Bool} {t : Nat} {v : V} (k : VD P cx l tm0 AO stO nb0 ds Q (⟨some d, op, ty, pos, af, some (j, bw)⟩ :: hd) tl i acc tm st nb)
  (_ht : (l[j]?).bind (·.dst) = some t := by rfl) (_hv : AA t tm = some v := by rfl) (_hl : v = .d (.lit (.bool true)) ∨ v = .d (.lit (.bool false)) ∨ v = .d (.lit undef) := by first | (left; with_reducible rfl) | (right; left; with_reducible rfl) | (right; right; with_reducible rfl)) : VD P cx l tm0 AO stO nb0 ds Q (⟨some d, op, ty, pos, af, some (j, bw)⟩ :: hd) tl i acc tm st nb := k
theorem WB {d : Tmp} {op : Op} {ty : TypeId} {pos : String} {af : Array Edge} {j : Nat} {b : Bool} {t : Nat} {v0 : V} {vis : List E} {tmI : List (Nat × V)} (k : VD P cx l tm0 AO stO nb0 ds Q hd tl (i + 1) (⟨i, d, .d (.lit undef), [], vis, none, none, [], none⟩ :: acc) ((d, .d (.lit undef)) :: tm) st nb)
  (hsel : ED af.toList ds acc tm0 (gT l ⟨some d, op, ty, pos, af, some (j, b)⟩ ++ []) = some tmI := by rfl) (hselA : (ED af.toList ds acc tm0 (gT l ⟨some d, op, ty, pos, af, some (j, b)⟩ ++ Ct op.operands.toList)).isSome = true := by rfl) (hvis : E3 acc af.toList = some vis := by rfl)
  (h1 : (l[j]?).bind (·.dst) = some t := by rfl) (h2 : AA t tmI = some v0 := by rfl) (hc : HF b v0 ∨ v0 = .d (.lit undef) := by first | (left; (with_reducible apply HF.tf); with_reducible rfl) | (left; (with_reducible apply HF.ft); with_reducible rfl) | (right; with_reducible rfl))
  (hd' : Nat.blt d cx.N = true := by rfl) (hds : C5 d ds = true := by rfl) (hfa : CM d acc = none := by rfl) : VD P cx l tm0 AO stO nb0 ds Q (⟨some d, op, ty, pos, af, some (j, b)⟩ :: hd) tl i acc tm st nb := by
 obtain ⟨R0, hA⟩ := Option.isSome_iff_exists.1 hselA
 have hgt : gT l ⟨some d, op, ty, pos, af, some (j, b)⟩ = [t] := by simp only [gT, h1]
 have hA2 : AA t R0 = some v0 := by
  rw [hgt] at hsel hA
  simp only [List.cons_append, List.nil_append] at hsel hA
  simp only [ED] at hsel hA
  split at hA
  ·cases hA
  ·split at hsel
   ·rename_i hx
    simp only [hx] at hA
    split at hsel
    ·rename_i hm
     simp only [hm] at hA
     cases hsel; cases hA
     simp only [AA, Nat.beq_refl] at h2 ⊢; exact h2
    ·cases hsel
   ·rename_i hx
    simp only [hx] at hA
    split at hsel
    ·cases hsel
    ·rename_i hm
     simp only [hm] at hA
     split at hsel
     ·rename_i hv
      simp only [hv] at hA
      cases hsel; cases hA
      simp only [AA, Nat.beq_refl] at h2 ⊢; exact h2
     ·cases hsel; simp [AA] at h2
 exact EA k (.inl ⟨rfl, Nat.le_of_ble_eq_true hd'⟩) hds hfa hA hvis (Px.skip rfl h1 hA2 hc (.inl rfl)) (.inl ⟨rfl, rfl, rfl⟩) (.inl rfl) rfl (.inl rfl)
theorem WC {d : Tmp} {op : Op} {ty : TypeId} {pos : String} {af : Array Edge} {v : V} {vis : List E} {tmI : List (Nat × V)} (k : VD P cx l tm0 AO stO nb0 ds Q hd tl (i + 1) (⟨i, d, v, [], vis, none, none, [], none⟩ :: acc) ((d, v) :: tm) st nb)
  (hsel : ED af.toList ds acc tm0 (gT l ⟨some d, op, ty, pos, af, gd⟩ ++ Ct op.operands.toList) = some tmI := by rfl) (hvis : E3 acc af.toList = some vis := by rfl) (hw : Wd l tmI gd := by first | exact trivial | exact A1 rfl rfl (by with_reducible rfl))
  (h : ∀ nb, Bq P cx op ty ⟨tmI, vis ++ AO, nb⟩ v := by intro nb; first | ((with_reducible apply P0); rfl) | ((with_reducible apply Lj); rfl) | ((with_reducible apply UY); first | ((with_reducible apply NA) <;> rfl) | ((with_reducible apply Nz) <;> rfl) | ((with_reducible apply Lg) <;> (first | rfl | assumption)) | ((with_reducible apply Kr) <;> rfl) | ((with_reducible apply Ny); rfl; rfl; (first | rfl | assumption); rfl) | ((with_reducible apply Lf); rfl; rfl; (first | rfl | assumption); exact Nat.le_of_ble_eq_true rfl)) | ((with_reducible apply U0); first | ((with_reducible apply P4); rfl) | ((with_reducible apply P5); rfl) | ((with_reducible apply P3); rfl)) | ((with_reducible apply Qd); first | ((with_reducible apply ZX) <;> rfl) | ((with_reducible apply ZR) <;> rfl) | ((with_reducible apply ZS) <;> rfl) | ((with_reducible apply ZT) <;> rfl) | ((with_reducible apply ZU) <;> rfl) | ((with_reducible apply ZV) <;> rfl) | ((with_reducible apply UR); rfl; rfl; (simp only [I6]; omega)) | ((with_reducible apply Ux); rfl; rfl; (simp only [I6]; omega)) | ((with_reducible apply UD); rfl; rfl; (simp only [I6]; omega)) | ((with_reducible apply PY) <;> rfl) | ((with_reducible apply PZ) <;> rfl) | ((with_reducible apply P9) <;> rfl) | ((with_reducible apply Qa) <;> rfl) | ((with_reducible apply UO) <;> rfl) | ((with_reducible apply UC) <;> rfl) | ((with_reducible apply P7); rfl; rfl; decide) | ((with_reducible apply P8); rfl; rfl; decide) | ((with_reducible apply OQ) <;> rfl) | ((with_reducible apply UB) <;> rfl) | ((with_reducible apply NG); rfl; rfl; exact fun _ => rfl) | ((with_reducible apply UN); rfl; rfl; rfl; rfl; rfl; rfl; assumption) | ((with_reducible apply PW); rfl; rfl; rfl; rfl; rfl; rfl; assumption) | ((with_reducible apply PX); rfl; rfl; rfl; rfl; rfl; rfl; assumption) | ((with_reducible apply OP); rfl; rfl; rfl; rfl; rfl; rfl; assumption)) | ((with_reducible apply UW); first | ((with_reducible apply PQ); exact FG rfl (by with_reducible rfl)) | ((with_reducible apply PR); exact FG rfl (by with_reducible rfl)) | ((with_reducible apply UA); rfl) | ((with_reducible apply PP); rfl; exact fun _ => rfl)) | ((with_reducible apply Nv); exact FG rfl (by with_reducible rfl); rfl) | ((with_reducible apply Nx); exact FG rfl (by with_reducible rfl); rfl) | ((with_reducible apply Qc); first | ((with_reducible apply PT); rfl) | ((with_reducible apply PV); rfl) | ((with_reducible apply PS); rfl) | ((with_reducible apply PU); rfl)) | ((with_reducible apply NI); first | ((with_reducible apply UJ) <;> rfl) | ((with_reducible apply UG) <;> rfl) | ((with_reducible apply UH) <;> rfl)) | ((with_reducible apply UM) <;> rfl) | ((with_reducible apply P6) <;> rfl) | ((with_reducible apply UF) <;> rfl) | ((with_reducible apply UE); rfl) | ((with_reducible apply UZ); first | ((with_reducible apply P2); rfl; rfl; omega; omega) | ((with_reducible apply UL); rfl; rfl; rfl; omega; (first | rfl | assumption); (first | rfl | assumption)) | ((with_reducible apply P1); rfl; rfl; rfl; omega; omega)) | ((with_reducible apply NF) <;> rfl) | ((with_reducible apply Li) <;> rfl) | ((with_reducible apply UX); first | ((with_reducible apply Lc) <;> rfl) | ((with_reducible apply Ld) <;> rfl) | ((with_reducible apply Nu); rfl; rfl; rfl; rfl; (first | exact Int.le_refl _ | omega | (simp only [Option.getD]; omega)); (simp only [Option.getD]; omega); (first | exact Int.le_refl _ | (simp only [Option.getD]; omega)); (first | assumption | (simp; fail_if_success (focus skip)))) | ((with_reducible apply Jz); rfl; rfl; rfl; rfl; (first | exact Int.le_refl _ | omega); (first | exact Int.le_refl _ | omega)) | ((with_reducible apply Le); rfl; rfl; rfl; rfl; rfl; (first | exact Int.le_refl _ | (simp only [Option.getD]; omega)); (simp only [Option.getD]; omega); (first | exact Int.le_refl _ | omega); (first | assumption | (simp; fail_if_success (focus skip))))) | ((with_reducible apply NB); rfl; rfl; rfl; rfl; omega; omega; (first | rfl | assumption)) | ((with_reducible apply NC) <;> rfl) | ((with_reducible apply Lh) <;> rfl) | ((with_reducible apply ZP) <;> rfl) | ((with_reducible apply Uw) <;> rfl) | ((with_reducible apply Qb); rfl; (first | exact .sl | exact .nil)) | ((with_reducible apply NE); rfl; (simp only [I6]; omega)) | ((with_reducible apply ND); rfl))
  (hd' : Nat.blt d cx.N = true := by rfl) (hn : BS op = true := by rfl) (hds : C5 d ds = true := by rfl) (hfa : CM d acc = none := by rfl) : VD P cx l tm0 AO stO nb0 ds Q (⟨some d, op, ty, pos, af, gd⟩ :: hd) tl i acc tm st nb :=
 EA k (.inl ⟨rfl, Nat.le_of_ble_eq_true hd'⟩) hds hfa hsel hvis (Px.of hw (Me.ofQ h hn)) (.inl ⟨rfl, rfl, rfl⟩) (.inl rfl) rfl (.inl rfl)
theorem Zk {d : Tmp} {op : Op} {ty : TypeId} {pos : String} {af : Array Edge} {v : V} {e : E} {vis : List E} {tmI : List (Nat × V)} (k : VD P cx l tm0 AO stO nb0 ds Q hd tl (i + 1) (⟨i, d, v, [e], vis, some nb, none, [e], none⟩ :: acc) ((d, v) :: tm) (e :: st) (nb + 1))
  (hsel : ED af.toList ds acc tm0 (gT l ⟨some d, op, ty, pos, af, gd⟩ ++ Ct op.operands.toList) = some tmI := by rfl) (hvis : E3 acc af.toList = some vis := by rfl) (hw : Wd l tmI gd := by first | exact trivial | exact A1 rfl rfl (by with_reducible rfl))
  (h : Qs P cx op ty tmI (vis ++ AO) v nb e := by first | (with_reducible apply Kq) | ((with_reducible apply Rf) <;> rfl) | ((with_reducible apply Xm) <;> rfl) | ((with_reducible apply Nr); rfl; rfl; omega; omega; decide; rfl) | ((with_reducible apply Ns); rfl; rfl; (first | exact .row rfl | exact .nil | exact .sl (by first | assumption | (simp; fail_if_success (focus skip)))); (first | omega | (focus (simp; fail_if_success (focus skip))) | (simp; omega)); decide) | ((with_reducible apply Nt); rfl; (first | exact .rv rfl (Nat.le_refl _) | exact .rv rfl (by omega) | exact .sl (by first | assumption | (simp; fail_if_success (focus skip)))); rfl; (first | exact .row rfl | exact .sl (by first | assumption | (simp; fail_if_success (focus skip)))); (first | omega | simp); (first | omega | (focus (simp; fail_if_success (focus skip))) | (simp; omega)); decide))
  (hd' : Nat.blt d cx.N = true := by rfl) (hn : BS op = true := by rfl) (hds : C5 d ds = true := by rfl) (hfa : CM d acc = none := by rfl) (hrb : JC nb [e] = true := by rfl) : VD P cx l tm0 AO stO nb0 ds Q (⟨some d, op, ty, pos, af, gd⟩ :: hd) tl i acc tm st nb :=
 EA k (.inl ⟨rfl, Nat.le_of_ble_eq_true hd'⟩) hds hfa hsel hvis (Px.of hw (Me.ofR h hn)) (.inr ⟨rfl, rfl⟩) (.inr ⟨_, rfl⟩) hrb (.inl rfl)
theorem Tm {d : Tmp} {op : Op} {ty : TypeId} {pos : String} {af : Array Edge} {v : V} {e : E} {vis : List E} {tmI : List (Nat × V)} (k : VD P cx l tm0 AO stO nb0 ds Q hd tl (i + 1) (⟨i, d, v, [], vis, some nb, none, [e], none⟩ :: acc) ((d, v) :: tm) st (nb + 1)) (_ : K4 d hd = true := by rfl)
  (hsel : ED af.toList ds acc tm0 (gT l ⟨some d, op, ty, pos, af, gd⟩ ++ Ct op.operands.toList) = some tmI := by rfl) (hvis : E3 acc af.toList = some vis := by rfl) (hw : Wd l tmI gd := by first | exact trivial | exact A1 rfl rfl (by with_reducible rfl))
  (h : Qs P cx op ty tmI (vis ++ AO) v nb e := by first | (with_reducible apply Kq) | ((with_reducible apply Rf) <;> rfl) | ((with_reducible apply Xm) <;> rfl) | ((with_reducible apply Nr); rfl; rfl; omega; omega; decide; rfl) | ((with_reducible apply Ns); rfl; rfl; (first | exact .row rfl | exact .nil | exact .sl (by first | assumption | (simp; fail_if_success (focus skip)))); (first | omega | (focus (simp; fail_if_success (focus skip))) | (simp; omega)); decide) | ((with_reducible apply Nt); rfl; (first | exact .rv rfl (Nat.le_refl _) | exact .rv rfl (by omega) | exact .sl (by first | assumption | (simp; fail_if_success (focus skip)))); rfl; (first | exact .row rfl | exact .sl (by first | assumption | (simp; fail_if_success (focus skip)))); (first | omega | simp); (first | omega | (focus (simp; fail_if_success (focus skip))) | (simp; omega)); decide))
  (hd' : Nat.blt d cx.N = true := by rfl) (hn : BS op = true := by rfl) (hds : C5 d ds = true := by rfl) (hfa : CM d acc = none := by rfl) (hrb : JC nb [e] = true := by rfl) : VD P cx l tm0 AO stO nb0 ds Q (⟨some d, op, ty, pos, af, gd⟩ :: hd) tl i acc tm st nb :=
 EA k (.inl ⟨rfl, Nat.le_of_ble_eq_true hd'⟩) hds hfa hsel hvis (Px.of hw (Me.ofR h hn)) (.inr ⟨rfl, rfl⟩) (.inr ⟨_, rfl⟩) hrb (.inr rfl)
theorem Tn {d : Tmp} {x : Operand} {f : FuncId} {xs : Array Operand} {tys : Array TypeId} {ty : TypeId} {pos : String} {af : Array Edge} {fv : V} {vs az : List V} {ds1 ds2 : List D} {v : D} {vis : List E} {tmI : List (Nat × V)}
  (hc : VP P f ds2 (· = .ret v)) (k : VD P cx l tm0 AO stO nb0 ds Q hd tl (i + 1) (⟨i, d, .d v, [], vis, none, none, [], none⟩ :: acc) ((d, .d v) :: tm) st nb)
  (hsel : ED af.toList ds acc tm0 (gT l ⟨some d, .call { callee := .value x, args := xs, argTypes := tys }, ty, pos, af, gd⟩ ++ Ct (Op.call { callee := .value x, args := xs, argTypes := tys }).operands.toList) = some tmI := by rfl) (hvis : E3 acc af.toList = some vis := by rfl) (hw : Wd l tmI gd := by first | exact trivial | exact A1 rfl rfl (by with_reducible rfl))
  (hx : Af ⟨tmI, vis ++ AO, 0⟩ x = some fv := by rfl) (hv : AY ⟨tmI, vis ++ AO, 0⟩ xs.toList = some vs := by rfl) (hf : GL fv vs = some (f, az) := by rfl) (ha : AD (vis ++ AO) az ds1 := by first | exact Jl rfl | ((repeat' (first | exact HD | exact HE | ((apply FM); rfl))); fail_if_success (focus skip))) (hdl : El ds1 ds2 := by ((repeat' (first | exact Dj | with_reducible apply CN | with_reducible exact Ex _ | with_reducible exact Gk _ | infer_instance | with_reducible apply Ez | with_reducible apply Ey | with_reducible apply Gj | with_reducible apply Gl | with_reducible apply BN | assumption | apply BN)); fail_if_success (focus skip)))
  (hd' : Nat.blt d cx.N = true := by rfl) (hds : C5 d ds = true := by rfl) (hfa : CM d acc = none := by rfl) : VD P cx l tm0 AO stO nb0 ds Q (⟨some d, .call { callee := .value x, args := xs, argTypes := tys }, ty, pos, af, gd⟩ :: hd) tl i acc tm st nb :=
 EA k (.inl ⟨rfl, Nat.le_of_ble_eq_true hd'⟩) hds hfa hsel hvis (Px.of hw (Me.ret hc hx hv hf ha hdl)) (.inl ⟨rfl, rfl, rfl⟩) (.inl rfl) rfl (.inl rfl)
theorem Zl {d : Tmp} {x : Operand} {f : FuncId} {xs : Array Operand} {tys : Array TypeId} {ty : TypeId} {pos : String} {af : Array Edge} {fv : V} {vs az : List V} {ds1 ds2 : List D} {e : TypeId} {sz : Nat} {r : List (List D)} {vis : List E} {tmI : List (Nat × V)}
  (hc : VP P f ds2 (· = .own e sz r)) (k : VD P cx l tm0 AO stO nb0 ds Q hd tl (i + 1) (⟨i, d, .row nb 0, [.r true true nb 0 e sz r], vis, some nb, none, [.r true true nb 0 e sz r], none⟩ :: acc) ((d, .row nb 0) :: tm) (.r true true nb 0 e sz r :: st) (nb + 1)) (_ : K4 d hd = false := by rfl)
  (hsel : ED af.toList ds acc tm0 (gT l ⟨some d, .call { callee := .value x, args := xs, argTypes := tys }, ty, pos, af, gd⟩ ++ Ct (Op.call { callee := .value x, args := xs, argTypes := tys }).operands.toList) = some tmI := by rfl) (hvis : E3 acc af.toList = some vis := by rfl) (hw : Wd l tmI gd := by first | exact trivial | exact A1 rfl rfl (by with_reducible rfl))
  (hx : Af ⟨tmI, vis ++ AO, 0⟩ x = some fv := by rfl) (hv : AY ⟨tmI, vis ++ AO, 0⟩ xs.toList = some vs := by rfl) (hf : GL fv vs = some (f, az) := by rfl) (ha : AD (vis ++ AO) az ds1 := by first | exact Jl rfl | ((repeat' (first | exact HD | exact HE | ((apply FM); rfl))); fail_if_success (focus skip))) (hdl : El ds1 ds2 := by ((repeat' (first | exact Dj | with_reducible apply CN | with_reducible exact Ex _ | with_reducible exact Gk _ | infer_instance | with_reducible apply Ez | with_reducible apply Ey | with_reducible apply Gj | with_reducible apply Gl | with_reducible apply BN | assumption | apply BN)); fail_if_success (focus skip)))
  (hd' : Nat.blt d cx.N = true := by rfl) (hds : C5 d ds = true := by rfl) (hfa : CM d acc = none := by rfl) (hrb : JC nb [.r true true nb 0 e sz r] = true := by rfl) : VD P cx l tm0 AO stO nb0 ds Q (⟨some d, .call { callee := .value x, args := xs, argTypes := tys }, ty, pos, af, gd⟩ :: hd) tl i acc tm st nb :=
 EA k (.inl ⟨rfl, Nat.le_of_ble_eq_true hd'⟩) hds hfa hsel hvis (Px.of hw (Me.own hc hx hv hf ha hdl)) (.inr ⟨rfl, rfl⟩) (.inr ⟨_, rfl⟩) hrb (.inl rfl)
theorem WD {d : Tmp} {x : Operand} {f : FuncId} {xs : Array Operand} {tys : Array TypeId} {ty : TypeId} {pos : String} {af : Array Edge} {fv : V} {vs az : List V} {ds1 ds2 : List D} {e : TypeId} {sz : Nat} {r : List (List D)} {vis : List E} {tmI : List (Nat × V)}
  (hc : VP P f ds2 (· = .own e sz r)) (k : VD P cx l tm0 AO stO nb0 ds Q hd tl (i + 1) (⟨i, d, .row nb 0, [], vis, some nb, none, [.r true true nb 0 e sz r], none⟩ :: acc) ((d, .row nb 0) :: tm) st (nb + 1)) (_ : K4 d hd = true := by rfl)
  (hsel : ED af.toList ds acc tm0 (gT l ⟨some d, .call { callee := .value x, args := xs, argTypes := tys }, ty, pos, af, gd⟩ ++ Ct (Op.call { callee := .value x, args := xs, argTypes := tys }).operands.toList) = some tmI := by rfl) (hvis : E3 acc af.toList = some vis := by rfl) (hw : Wd l tmI gd := by first | exact trivial | exact A1 rfl rfl (by with_reducible rfl))
  (hx : Af ⟨tmI, vis ++ AO, 0⟩ x = some fv := by rfl) (hv : AY ⟨tmI, vis ++ AO, 0⟩ xs.toList = some vs := by rfl) (hf : GL fv vs = some (f, az) := by rfl) (ha : AD (vis ++ AO) az ds1 := by first | exact Jl rfl | ((repeat' (first | exact HD | exact HE | ((apply FM); rfl))); fail_if_success (focus skip))) (hdl : El ds1 ds2 := by ((repeat' (first | exact Dj | with_reducible apply CN | with_reducible exact Ex _ | with_reducible exact Gk _ | infer_instance | with_reducible apply Ez | with_reducible apply Ey | with_reducible apply Gj | with_reducible apply Gl | with_reducible apply BN | assumption | apply BN)); fail_if_success (focus skip)))
  (hd' : Nat.blt d cx.N = true := by rfl) (hds : C5 d ds = true := by rfl) (hfa : CM d acc = none := by rfl) (hrb : JC nb [.r true true nb 0 e sz r] = true := by rfl) : VD P cx l tm0 AO stO nb0 ds Q (⟨some d, .call { callee := .value x, args := xs, argTypes := tys }, ty, pos, af, gd⟩ :: hd) tl i acc tm st nb :=
 EA k (.inl ⟨rfl, Nat.le_of_ble_eq_true hd'⟩) hds hfa hsel hvis (Px.of hw (Me.own hc hx hv hf ha hdl)) (.inr ⟨rfl, rfl⟩) (.inr ⟨_, rfl⟩) hrb (.inr rfl)
theorem KM {o : Oper} {d : Nat} {v : V} {ent E0 : E} {e vis : List E} {tmI : List (Nat × V)} {k : Nat} {r : Option Nat} (kk : VD P cx l tm0 AO stO nb0 ds Q hd tl (i + 1) (⟨i, d, v, e, vis, none, some (k, E0), [ent], r⟩ :: acc) ((d, v) :: tm) (e ++ st) nb) (ho : (o.dst = some d ∧ d < cx.N) ∨ (o.dst = none ∧ v = .d .any)) (hds : C5 d ds = true) (hfa : CM d acc = none)
  (hsel : ED o.after.toList ds acc tm0 (gT l o ++ TD o) = some tmI) (hvis : E3 acc o.after.toList = some vis) (hw : Wd l tmI o.guard) (hop : OpC P cx o tmI (vis ++ AO) k E0 v ent) (hn0 : Dt k AO = true) (hne : ∀ k', k' ≠ k → Dt k' [ent] = true) (hne0 : ∀ k', k' ≠ k → Dt k' [E0] = true) (hep : e = [ent] ∨ e = [])
  (hr : (r = none ∧ (k < nb0 ∧ EOk stO k E0) ∧ XR k acc = true) ∨ ∃ z, I4 k acc = some z ∧ r = some z.i ∧ z.p = [E0] ∧ z.e = [] ∧ E8 z.i o.after.toList = true) :
  VD P cx l tm0 AO stO nb0 ds Q (o :: hd) tl i acc tm st nb := fun hi hl hle hG => by
 have hlen : acc.length < l.length := by
  have := congrArg List.length hl
  simp at this; omega
 have hget : l[acc.length]? = some o := by
  rw [hl, List.getElem?_append_right (by simp; omega)]
  simp [Nat.min_eq_left hle]
 have hS : Stp P cx l tm0 AO stO ds nb0 acc ⟨i, d, v, e, vis, none, some (k, E0), [ent], r⟩ nb nb := ⟨⟨o, tmI, hget, hsel, hvis, ho, .inr ⟨k, _, ent, rfl, rfl, rfl, hw, hop, fun j hj => by
   rcases hr with ⟨h, _⟩ | ⟨z, _, h, _, _, h2⟩
   ·simp only at hj; rw [h] at hj; cases hj
   ·simp only at hj; rw [h] at hj; cases hj; exact h2⟩⟩, hep, .inr ⟨k, _, rfl, hn0, hne, hne0, hr.imp id fun ⟨z, h1, h2, h3, h4, _⟩ => ⟨z, h1, h2, h3, h4⟩⟩, hi, ⟨hds, hfa⟩, .inl ⟨rfl, rfl⟩, .inr ⟨_, rfl⟩⟩
 obtain ⟨L, a1, a2, a3, h1, h2, h3⟩ := kk (by simp [hi]) (by
  have h4 : l.take (acc.length + 1) = l.take acc.length ++ [o] := by rw [List.take_add_one, hget]; rfl
  simp only [List.length_cons, h4]
  rw [List.append_assoc]; exact hl) (by simp; omega) (.cons hG hS)
 exact ⟨L, a1, a2, a3, h1, by rw [h2]; simp; omega, h3⟩
theorem Ho {k : Nat} {o nw : Bool} {ver : Nat} {e : TypeId} {sz : Nat} {lr : List (List D)} : ∀ k', k' ≠ k → Dt k' [.r o nw k ver e sz lr] = true := fun k' hk' => by
 simp only [Dt]
 rw [show Nat.beq k' k = false from by
  cases hb : Nat.beq k' k
  ·rfl
  ·exact (hk' (Nat.eq_of_beq_eq_true hb)).elim]
theorem HT {k off : Nat} {vs : List V} : ∀ k', k' ≠ k → Dt k' [.c k off vs] = true := fun k' hk' => by
 simp only [Dt]
 rw [show Nat.beq k' k = false from by
  cases hb : Nat.beq k' k
  ·rfl
  ·exact (hk' (Nat.eq_of_beq_eq_true hb)).elim]
theorem Jk {st : List E} {k off : Nat} {old : List V} : ∀ {n i : Nat}, i + n = old.length → AM k (off + i) (.c k off old :: st) n = some (old.drop i)
 | 0, i, h => by simp only [AM]; rw [List.drop_eq_nil_of_le (by omega)]
 | n + 1, i, h => by
  have hi : i < old.length := by omega
  have hc : Aq k (off + i) (.c k off old :: st) = some old[i] := by
   simp only [Aq, Nat.beq_refl]
   rw [Nat.ble_eq_true_of_le (by omega : off ≤ off + i)]
   simp only [show off + i - off = i by omega, List.getElem?_eq_getElem hi]
  have ih := Jk (st := st) (k := k) (off := off) (old := old) (n := n) (i := i + 1) (by omega)
  simp only [AM, hc]
  rw [show off + i + 1 = off + (i + 1) by omega, ih]
  simp
theorem NZ {st : List E} {k off : Nat} (old : List V) : AM k off (.c k off old :: st) old.length = some old := by
 have := Jk (st := st) (k := k) (off := off) (old := old) (n := old.length) (i := 0) (by omega)
 simpa using this
theorem RM {t ty : TypeId} {x y : Operand} {k off sz : Nat} {ag : Bool} {z : List Value} {v : V} {vs old : List V} {pos : String} {af : Array Edge} [hT : BE P t ag (sz + 1) z] (hx : ∀ nb, Af ⟨tm, st, nb⟩ x = some (.ptr k off)) (hy : ∀ nb, Af ⟨tm, st, nb⟩ y = some v) (hv : Bt v = some vs) (hl : vs.length = sz + 1) (h1 : Ca vs = true) (hol : old.length = sz + 1) (_ : Dt k st = true) :
  OpC P cx ⟨none, .store t x y, ty, pos, af, none⟩ tm st k (.c k off old) (.d .any) (.c k off vs) := fun n nb g a w K Qx hS hE0 hK => by
 have hold : AM k off (.c k off old :: st) (sz + 1) = some old := by rw [← hol]; exact NZ old
 obtain ⟨w', r1, r2, r3, r4⟩ := Ip (hT := hT) (ty := ty) (s := ⟨tm, .c k off old :: st, nb⟩) (hx nb) (hy nb) hv hl h1 hold hS
 refine ⟨fun _ _ => trivial, ?_⟩
 rw [Oper.semAt_plain (FW cx.rd) _ _ (by intro c e; cases e), Bn, r1]
 have hk := hK undef g w' r2 (fun _ _ => ⟨rfl, rfl, rfl⟩) (fun st' hn hs => KU (r4 st' hs) hn) (r4 [] AC.nil) r3 (by simp only [vrep, drep])
 exact hk
theorem RN {t ty el : TypeId} {x y : Operand} {k ver sz by_ : Nat} {l1 l2 : List (List D)} {nw : Bool} {v2 : V} {dst : Option Tmp} {pos : String} {af : Array Edge} {gd : Option (Nat × Bool)} [hE : EQ P t el sz by_] (hx : ∀ nb, Af ⟨tm, st, nb⟩ x = some (.row k ver)) (hy : ∀ nb, Af ⟨tm, st, nb⟩ y = some v2) (hsrc : Ic st sz v2 l2) (hnk : Dt k st = true)
  (hb : (l1.length + l2.length) * by_ ≤ 140737488355328) (h0 : 0 < by_) : OpC P cx ⟨dst, .call { callee := .builtin .append, args := #[x, y], argTypes := #[t, t] }, ty, pos, af, gd⟩ tm st k (.r true nw k ver el sz l1) (.row k (ver + 1)) (.r true nw k (ver + 1) el sz (l1 ++ l2)) := fun n nb g a w K Qx hS hE0 hK => by
 have hst : AC cx.B g w st := MA hS.st hnk
 have hS' : Dg cx g a w ⟨tm, st, nb⟩ := ⟨hS.size, hS.tm, hst, hS.inv, hS.defers⟩
 have hx' := hS'.eval (hx nb)
 simp only [vrep] at hx'
 have hrk : ∀ st' : List E, Az k (.r true nw k ver el sz l1 :: st') = some (true, nw, ver, el, sz, l1) := fun st' => by simp only [Az, Nat.beq_refl]
 obtain ⟨v, xs, r1, r2, r3, r4, r5⟩ := hE0.row (hrk [])
 rw [hx'.1] at r1; cases r1
 rcases r5 with ⟨_, r5, r6⟩ | ⟨h, _⟩
 ·obtain ⟨us, s1, s2, s3, s4, s5⟩ := hsrc.rep hst (hS'.eval (hy nb))
  have hml : l1.length + l2.length ≤ maxLen := by
   have := Nat.le_mul_of_pos_right (l1.length + l2.length) h0
   unfold maxLen; omega
  obtain ⟨v', w', hrun, h1, h2, h3⟩ := E4 (ty := ty) hE.elem r5 s1 s3 s4 hml hb
  have hold : ∀ b, b < w.heap.size → g.prot b → (g.prot b ∧ some b ≠ v'.ownBlock) ∧ w'.heap[b]? = w.heap[b]? := fun b hb' hp => by
   refine ⟨⟨hp, fun he => ?_⟩, h2.block b hb' fun he => hp (.inr (.inr ⟨k, r6.trans he.symm⟩))⟩
   rcases h3 b he.symm with h | h
   ·exact hp (.inr (.inr ⟨k, r6.trans h⟩))
   ·omega
  have key : ∀ st', AC cx.B g w st' → _ := fun st' hs' => He hS.inv (hE0.cons hs') (hrk st') hx'.1 r6 h2 (Fs (AL (Nat.le_refl _) hold r2) (AL (Nat.le_refl _) hold s2))
   ⟨fun x hx => (List.mem_append.1 hx).elim (r3.1 x) (s5 x), fun u hu => (List.mem_append.1 hu).elim (r3.2.1 u) (s4 u)⟩ (by rw [List.length_append]; exact h1) h3 (.inr rfl)
  obtain ⟨m1, m2, m3, m4⟩ := key [] AC.nil
  refine ⟨fun _ _ => trivial, ?_⟩
  rw [Oper.semAt_plain (FW cx.rd) _ _ (by intro c e; cases e), Bn, EK hrun]
  refine hK v' _ w' m1 (fun i hi => ⟨rfl, by simp [G.setRw, hi], by funext j; simp [G.setRw, hi]⟩) (fun st' hn' hs' => ?_) ?_ m3 m4
  ·have h4 := (key st' hs').2.1
   exact MA (MB h4) hn'
  ·have := m2
   exact MB this
 ·cases h
end

end Go.Proofs.YtbgcjnfhadhjeaaGreat