/- Walks by data and names, part 14: Calls that are walked through where they stand: what is handed over may lead to the caller's own. A function that catches: a call is deferred, and what it catches is told. -/
import Derived.RecoverIn
import Derived.Test.YtbgcjnfhadhjeaaGreatQk13
namespace Go.Proofs.YtbgcjnfhadhjeaaGreat
set_option maxRecDepth 20000
open Go.RowKit
inductive RC where
 | ret (v : V)
 | panic (v : V)
def Hb (B : Nat) (g : G) (w : World) : RC → Ending → Prop
 | .ret v, e => ∃ u, e = .returned u ∧ vrep B g w v u
 | .panic v, e => ∃ u, e = .panicked [{ v := u, recovered := false }] ∧ vrep B g w v u
def VC (P : Program) (f : FuncId) (B : Nat) (vs : List V) (st : List E) (nb : Nat) (Q : RC → List E → Nat → Prop) : Prop :=
 (∀ args w, (callFunc f args).run P w = .ok (.enter f args) w) ∧ ∀ (g : G) (w : World) (us : List Value), AC B g w st → CG B nb g w → vreps B g w vs us →
  Calls P f us.toArray w fun e w' => ∃ g' st' nb' r, BZ B g w g' w' ∧ AC B g' w' st' ∧ CG B nb' g' w' ∧ Hb B g' w' r e ∧ Q r st' nb'
theorem VC.mono {P : Program} {f : FuncId} {B : Nat} {vs : List V} {st : List E} {nb : Nat} {Q Q' : RC → List E → Nat → Prop} (h : VC P f B vs st nb Q) (hq : ∀ r s n, Q r s n → Q' r s n) : VC P f B vs st nb Q' :=
 ⟨h.1, fun g w us h1 h2 h3 => (h.2 g w us h1 h2 h3).mono fun _ _ ⟨g', s', n', r, k1, k2, k3, k4, k5⟩ => ⟨g', s', n', r, k1, k2, k3, k4, hq _ _ _ k5⟩⟩
section
structure Pq (w w2 : World) : Prop where
 c : ∀ (b : Nat) (cs : Array Value) (t : TypeId) (fz : Nat × Nat), w.heap[b]? = some (.cells cs t fz) → w2.heap[b]? = w.heap[b]?
 l : ∀ (b : Nat) (r : Loop), w.heap[b]? = some (.loop r) → w2.heap[b]? = w.heap[b]?
variable {B : Nat} {g : G} {w w2 : World}
mutual
theorem BW (C : Pq w w2) : ∀ {v : V} {u : Value}, vrep B g w v u → vrep B g w2 v u
 | .d x, u, hu => by simp only [vrep] at hu ⊢; exact FI (fun p a cs h => At.cellsN (f := p) (fun b cs t fz hc hu => ⟨hu, C.c b cs t fz hc⟩) h) hu
 | .agg l, u, hu => by simp only [vrep] at hu ⊢; obtain ⟨cs, e, k⟩ := hu; exact ⟨cs, e, DY C k⟩
 | .tup l, u, hu => by simp only [vrep] at hu ⊢; obtain ⟨cs, e, k⟩ := hu; exact ⟨cs, e, DY C k⟩
 | .ptr k o, u, hu => by simp only [vrep] at hu ⊢; exact hu
 | .ep l, u, hu => by
  simp only [vrep] at hu ⊢
  obtain ⟨b, o, cs, e, k1, k2⟩ := hu
  refine ⟨b, o, cs, e, ?_, Ee (fun p a cs h => At.cellsN (f := p) (fun b cs t fz hc hu => ⟨hu, C.c b cs t fz hc⟩) h) k2⟩
  have := At.cells (U := g.prot) (U' := g.prot) (p := fun _ => True) (fun b cs t fz hc hu => ⟨hu, C.c b cs t fz hc⟩) (k1.imp fun b hb => ⟨hb, trivial⟩)
  exact this.imp fun b hb => hb.1
 | .row k v, u, hu => by simp only [vrep] at hu ⊢; exact hu
 | .rp k v sz i j, u, hu => by simp only [vrep] at hu ⊢; exact hu
 | .fn f a c, u, hu => by simp only [vrep] at hu ⊢; obtain ⟨xs, ys, e, k1, k2⟩ := hu; exact ⟨xs, ys, e, DY C k1, DY C k2⟩
 | .ifc t x, u, hu => by simp only [vrep] at hu ⊢; obtain ⟨y, e, k⟩ := hu; exact ⟨y, e, BW C k⟩
 | .sv _ _ _ _ _, u, hu => by simp only [vrep] at hu ⊢; exact hu
 | .yl _, u, hu => by simp only [vrep] at hu ⊢; exact hu
 | .rv _ _ _, u, hu => by simp only [vrep] at hu ⊢; exact hu
 | .po _ _, u, hu => by simp only [vrep] at hu ⊢; obtain ⟨y, e, k⟩ := hu; exact ⟨y, e, FI (fun p a cs h => At.cellsN (f := p) (fun b cs t fz hc hu => ⟨⟨hu.1, hu.2.of (C.c b cs t fz hc)⟩, C.c b cs t fz hc⟩) h) k⟩
theorem DY (C : Pq w w2) : ∀ {v : List V} {u : List Value}, vreps B g w v u → vreps B g w2 v u
 | [], u, hu => by simp only [vreps] at hu ⊢; exact hu
 | v :: vs, u, hu => by simp only [vreps] at hu ⊢; obtain ⟨y, ys, e, k1, k2⟩ := hu; exact ⟨y, ys, e, BW C k1, DY C k2⟩
end
theorem De (C : Pq w w2) {st : List E} (hs : AC B g w st) : AC B g w2 st := by
 refine ⟨fun {k o v} hc => ?_, fun {k o nw ver e sz l} hr => ?_, fun {k r T tm0} hl => ⟨fun lp e => let ⟨b, m1, m2⟩ := (hs.loop hl).1 lp e; ⟨b, m1, (C.l b _ m2).trans m2⟩, fun ht => BW C ((hs.loop hl).2 ht)⟩⟩
 ·obtain ⟨b, rcs, ty, u, m1, m2, m3, m4⟩ := hs.cell hc
  exact ⟨b, rcs, ty, u, m1, (C.c b _ _ _ m2).trans m2, m3, BW C m4⟩
 ·obtain ⟨v, xs, r1, r2, r3, r4, r5⟩ := hs.row hr
  refine ⟨v, xs, r1, Gh (fun p a cs h => At.cellsN (f := p) (fun b cs t fz hc hu => ⟨hu, C.c b cs t fz hc⟩) h) r2, r3, r4, ?_⟩
  rcases r5 with ⟨e1, e2, e3⟩ | ⟨e1, e2, e3⟩
  ·refine .inl ⟨e1, ⟨e2.1, ?_⟩, e3⟩
   rcases e2.2 with h | ⟨gb, cap, cur, hv, hb, hh, rest⟩
   ·exact .inl h
   ·exact .inr ⟨gb, cap, cur, hv, hb, (C.c gb _ _ _ hh).trans hh, rest⟩
  ·exact .inr ⟨e1, e2, FI (fun p a cs h => At.cellsN (f := p) (fun b cs t fz hc hu => ⟨hu, C.c b cs t fz hc⟩) h) e3⟩
end
def Hl (P : Program) (rs : List ResultVar) (Q : RC → List E → Nat → Prop) : VE → St → Prop
 | .normal, s | .ret, s => ∃ vs, Cr P s rs vs ∧ Q (.ret (Dq vs)) s.st s.nb
 | .panic v, s => Q (.panic v) s.st s.nb
 | _, _ => False
theorem Ei.up {sp sp' : Prop} {m : Nat} {g g' : G} {w w' : World} (h : Ei sp m g w g' w') (hs : sp → sp') : Ei sp' m g w g' w' :=
 ⟨h.os, h.tape, h.output, h.size, h.bx, h.rw, h.blk, h.ex, fun b hb hn => h.exblk b hb fun h => hn ⟨hs h.1, h.2⟩, h.pl, h.blur⟩
theorem Ei.exb {m : Nat} {g g' : G} {w w' : World} (h : Ei False m g w g' w') (b : Nat) (hb : g.ex b) : w'.heap[b]? = w.heap[b]? := h.exblk b hb fun h => h.1
theorem Ei.strict {sp : Prop} {m B nb : Nat} {g g' : G} {w w' : World} (h : Ei sp m g w g' w') (hi : CG B nb g w) (hsp : sp → w.heap.size ≤ B) : Ei False m g w g' w' :=
 ⟨h.os, h.tape, h.output, h.size, h.bx, h.rw, h.blk, h.ex, fun b hb _ => h.exblk b hb fun h' => (by have := hsp h'.1; have := hi.plB h'.2; have := hi.exlt hb; omega), h.pl, h.blur⟩
theorem Ei.evo {sp : Prop} {B nb : Nat} {g g' : G} {w w' : World} (h : Ei sp nb g w g' w') (hi : CG B nb g w) (hsp : sp → w.heap.size ≤ B) : BZ B g w g' w' :=
 ⟨h.os, h.tape, h.output, h.size, fun e => h.bx (hi.bxlt e).2 e, fun e => h.rw (hi.rwlt e) e, h.blk, h.ex, fun b hb => h.exblk b hb fun h' => (by have := hsp h'.1; have := hi.plB h'.2; have := hi.exlt hb; omega), h.pl⟩
theorem Lq {B : Nat} {g g' : G} {w w' w2 : World} {bs : List Nat} (h : BZ B g w g' w') (hi : ∀ b, g.ex b → b < w.heap.size) (hl : Left bs w' w2) (hb : ∀ b ∈ bs, w.heap.size ≤ b) : BZ B g w g' w2 :=
 ⟨hl.os.trans h.os, hl.tape.trans h.tape, hl.output.trans h.output, by rw [hl.size]; exact h.size, h.bx, h.rw, fun b hlt hp => ⟨(h.blk b hlt hp).1, (hl.block b fun hm => by have := hb b hm; omega).trans (h.blk b hlt hp).2⟩, h.ex, fun b he => (hl.block b fun hm => by have := hb b hm; have := hi b he; omega).trans (h.exblk b he), h.pl⟩
theorem DR {bs : List Nat} {w' w2 : World} (hl : Left bs w' w2) (hb : ∀ b ∈ bs, w'.heap[b]? = some (.deferred (some []))) : Pq w' w2 :=
 ⟨fun b cs t fz hc => hl.block b fun hm => (by rw [hb b hm] at hc; cases hc), fun b r hc => hl.block b fun hm => (by rw [hb b hm] at hc; cases hc)⟩
theorem Gr {N B nb : Nat} {M : Option Nat} {df : List (FuncId × List V)} {g : G} {w : World} {vs : List V} {st : List E} {us : List Value} {d : List Deferred} (hus : vreps B g w vs us) (hle : Nat.ble vs.length N = true) (hs : AC B g w st) (hi : CG B nb g w) (hd : L0 ⟨N, none, B, nb, M, df⟩ g w d) :
  Dg ⟨N, none, B, nb, M, df⟩ g { tmps := us.toArray ++ Array.replicate (N - us.toArray.size) undef, defers := d } w ⟨CF 0 vs, st, nb⟩ := by
 have hlen := C0 hus
 have hle := Nat.le_of_ble_eq_true hle
 refine ⟨by simp [hlen]; omega, fun {t v} hv => ?_, hs, hi, hd⟩
 obtain ⟨h1, h2⟩ := IF hv
 obtain ⟨u, hu, k⟩ := CH hus h2
 have hlt := (List.getElem?_eq_some_iff.1 hu).1
 simp only [Nat.sub_zero] at hu hlt
 rw [Array.getD_eq_getD_getElem?, Array.getElem?_append_left (by simpa using hlt)]
 simp only [List.getElem?_toArray, hu, Option.getD_some]
 exact k
theorem Yr {P : Program} {f : FuncId} {fn : Func} {c : Code} {B : Nat} {vs : List V} {st : List E} {nb : Nat} {Q : RC → List E → Nat → Prop} (hf : P.funcs[f]? = some fn) (hb : fn.body = some c) {N : Nat} (hN : fn.ntmps = N) {rs : List ResultVar} (hrs0 : fn.results = rs.toArray)
  (h : ∀ M, VW P ⟨N, none, B, nb, some M, []⟩ c ⟨CF 0 vs, st, nb⟩ (Hl P rs Q)) (hle : Nat.ble vs.length N = true := by rfl) (hname : (fn.name == "runtime.NumGoroutine") = false := by kernel_rfl) : VC P f B vs st nb Q := by
 refine ⟨Bu hf hname (by rw [hb]; rfl), ?_⟩
 have hrs : fn.results.toList = rs := by rw [hrs0]
 intro g w us hs hi hus
 rw [← callsIn_wide (n := 0)]
 refine callsIn_of_wp_marks hf hb trivial ?_
 have hS : Dg ⟨N, none, B, nb, some w.heap.size, []⟩ g { tmps := us.toArray ++ Array.replicate (fn.ntmps - us.toArray.size) undef, defers := [] } w ⟨CF 0 vs, st, nb⟩ := by
  rw [hN]; exact Gr hus hle hs hi ⟨(fun _ h => by first | (cases h; fail_if_success (focus skip)) | (cases h; exact Nat.le_refl _)), [], [], rfl, by simp, by simp, rfl⟩
 refine wpIn_mono (h w.heap.size 0 g w g _ w (Ei.refl _ _ _ _) hS) ?_
 rintro e a' w' ⟨g', s', e', hE, hS', he, hq⟩
 have hEv := Ei.evo hE hi fun h => by cases h; exact Nat.le_refl _
 obtain ⟨_, bs, rr, hds, hnd, hbs0, hrr⟩ := hS'.defers
 have hbs : ∀ b ∈ bs, g'.prot b ∧ w.heap.size ≤ b ∧ w'.heap[b]? = some (.deferred (some [])) := fun b hb => by
  obtain ⟨h1, ⟨m, h2, h3⟩, h4⟩ := hbs0 b hb
  cases h2; exact ⟨h1, h3, h4⟩
 simp only [Mr] at hrr
 rw [hrr, List.append_nil] at hds
 have hown : ∀ {w2}, Left bs w' w2 → ∀ b, g'.own b → w2.heap[b]? = w'.heap[b]? := fun hl b hb => hl.block b fun hm => (hbs b hm).1 hb
 have hret : (∃ vs, Cr P s' rs vs ∧ Q (.ret (Dq vs)) s'.st s'.nb) →
   LeavesInM Fence.wide 0 P fn a'.tmps (fun e w' => ∃ g' st' nb' r, BZ B g w g' w' ∧ AC B g' w' st' ∧ CG B nb' g' w' ∧ Hb B g' w' r e ∧ Q r st' nb') a'.defers .returning w' := by
  rintro ⟨vs, hv, hq⟩
  rw [hds]
  refine B9 (by simp) bs w' hnd (fun b hb => (hbs b hb).2.2) fun w2 hl => ?_
  have C := DR hl fun b hb => (hbs b hb).2.2
  obtain ⟨u, h1, h2⟩ := Cr.all (fn := fn) hS' (hown hl) (by rw [hrs]; exact hv)
  simp only [LeavesIn]
  exact ⟨u, h1, g', s'.st, s'.nb, .ret (Dq vs), Lq hEv (fun _ h => hi.exlt h) hl (fun b hb => (hbs b hb).2.1), De C hS'.st, hS'.inv.evo (by rw [hl.size]; exact Nat.le_refl _), ⟨u, rfl, BW C h2⟩, hq⟩
 cases e' with
 | normal => simp only [BV] at he; subst he; exact hret hq
 | ret => simp only [BV] at he; subst he; exact hret hq
 | panic v =>
  obtain ⟨u, rfl, hu⟩ := he
  simp only [bodyPostM]
  rw [hds]
  refine B9 (by simp) bs w' hnd (fun b hb => (hbs b hb).2.2) fun w2 hl => ?_
  have C := DR hl fun b hb => (hbs b hb).2.2
  simp only [LeavesIn]
  exact ⟨g', s'.st, s'.nb, .panic v, Lq hEv (fun _ h => hi.exlt h) hl (fun b hb => (hbs b hb).2.1), De C hS'.st, hS'.inv.evo (by rw [hl.size]; exact Nat.le_refl _), ⟨u, rfl, BW C hu⟩, hq⟩
 | exit id => exact hq.elim
 | goto l => exact hq.elim
def LH (P : Program) (cx : Cx) (ops rest : List Oper) (t : Tmp) (tm : List (Nat × V)) (Q : VE → St → Prop) : RC → List E → Nat → Prop
 | .ret v, st, nb => VL P cx ops rest ⟨(t, v) :: tm, st, nb⟩ Q
 | .panic v, st, nb => Q (.panic v) ⟨tm, st, nb⟩
section
variable {P : Program} {cx : Cx} {s : St} {Q : VE → St → Prop} {ops rest : List Oper}
theorem Abm {t : Tmp} {x : Operand} {xs : Array Operand} {tys : Array TypeId} {ty : TypeId} {pos : String} {af : Array Edge} {gd : Option (Nat × Bool)} {v : V} {f : FuncId} {vs az : List V}
  (hx : Af s x = some v) (hv : AY s xs.toList = some vs) (hf : GL v vs = some (f, az)) (hc : VC P f cx.B az s.st s.nb (LH P cx ops rest t s.tm Q)) (hw : Wd ops s.tm gd) (ht : Nat.blt t cx.N = true) :
  VL P cx ops (⟨some t, .call { callee := .value x, args := xs, argTypes := tys }, ty, pos, af, gd⟩ :: rest) s Q := fun n g0 w0 g a w hE hS => by
 simp only [BH]
 rw [if_pos (Wd.wanted (o := ⟨some t, _, ty, pos, af, gd⟩) hS hw)]
 refine ⟨fun _ _ => trivial, ?_⟩
 rw [Oper.semAt_plain (FW cx.rd) _ _ (by intro c e; cases e)]
 obtain ⟨zs, hrun, hzs⟩ := EN (P := P) (w := w) (dst := some t) (tys := tys) (ty := ty) (pos := pos) (af := af) (gd := gd) hc.1 hS hx hv hf
 rw [hrun, Oper.uponIn_enter]
 refine ⟨(fun h => by cases h), ?_⟩
 have hcall := hc.2 g w zs hS.st hS.inv hzs
 have hmem : ∀ (r : Ending → World → Prop), Calls P f zs.toArray w r → CallsIn (FW cx.rd) (n - 1) P f zs.toArray w r := fun r h =>
  ⟨trivial, fun cs _ => by
   obtain ⟨e, w', fr, hr, hcm, hx⟩ := h cs
   refine ⟨e, w', fr, hr, ?_, hx⟩
   have := comesIn_wide.2 hcm
   cases e with
   | returned v => exact StepsIn.mono (fun m _ => Bh P cx.rd m) this
   | panicked ch => exact StepsIn.mono (fun m _ => Bh P cx.rd m) this
   | outgrown => exact this⟩
 refine (hmem _ hcall).mono ?_
 rintro e w' ⟨g', st', nb', r, k1, k2, k3, k4, k5⟩
 cases r with
 | ret v =>
  obtain ⟨u, rfl, hu⟩ := k4
  exact k5 n g0 w0 g' _ w' (hE.trans k1) (hS.put k1 (Nat.le_of_ble_eq_true ht) k2 k3 hu)
 | panic v =>
  obtain ⟨u, rfl, hu⟩ := k4
  exact ⟨g', _, .panic v, hE.trans k1, hS.same k1 k2 k3, ⟨u, rfl, hu⟩, k5⟩
theorem BI {t : Tmp} {x : Operand} {xs : Array Operand} {tys : Array TypeId} {ty : TypeId} {pos : String} {af : Array Edge} {gd : Option (Nat × Bool)} {v : V} {f : FuncId} {vs az : List V} {tm : List (Nat × V)} {st : List E} {nb : Nat}
  (hx : Af ⟨tm, st, nb⟩ x = some v := by rfl) (hv : AY ⟨tm, st, nb⟩ xs.toList = some vs := by rfl) (hf : GL v vs = some (f, az) := by rfl) (hc : VC P f cx.B az st nb (LH P cx ops rest t tm Q)) (hw : Wd ops tm gd := by first | exact trivial | exact A1 rfl rfl (by with_reducible rfl)) (ht : Nat.blt t cx.N = true := by rfl) :
  VL P cx ops (⟨some t, .call { callee := .value x, args := xs, argTypes := tys }, ty, pos, af, gd⟩ :: rest) ⟨tm, st, nb⟩ Q := Abm hx hv hf hc hw ht
def MI : List V → Option V
 | [v] => some v
 | [] => some (.tup [])
 | a :: b :: l => some (.tup (a :: b :: l))
theorem Lk : ∀ {l : List V} {v : V}, MI l = some v → Dq l = v
 | [], v, h => by simp only [MI, Option.some.injEq] at h; rw [← h]; rfl
 | [x], v, h => by simp only [MI, Option.some.injEq] at h; rw [← h]; rfl
 | _ :: _ :: _, v, h => by simp only [MI, Option.some.injEq] at h; rw [← h]; rfl
variable {tm : List (Nat × V)} {st : List E} {nb : Nat}
theorem AbL {rs : List ResultVar} {K : RC → List E → Nat → Prop} (h : Hl P rs K .ret s) : Hl P rs K .ret s := h
theorem ZM {rs : List ResultVar} {K : RC → List E → Nat → Prop} {vs : List V} {v : V} (k : K (.ret v) st nb)
  (h : Cr P ⟨tm, st, nb⟩ rs vs := by repeat' (first | exact Cr.nil | (apply Cr.tmp; rfl) | (apply Cr.cell; infer_instance; rfl; rfl) | (apply Cr.cells; infer_instance; rfl; rfl))) (hp : MI vs = some v := by rfl) : Hl P rs K .ret ⟨tm, st, nb⟩ := ⟨vs, h, by rw [Lk hp]; exact k⟩
theorem Adi {K : RC → List E → Nat → Prop} (k : K (.ret (.tup [])) st nb) : Hl P [] K .normal ⟨tm, st, nb⟩ := ⟨[], .nil, k⟩
end

def W5 : Option V → V
 | none => .d (.lit .nilIface)
 | some v => v
def VDf (P : Program) (f : FuncId) (B : Nat) (vs : List V) (rv : Option V) (st : List E) (nb : Nat) (K : List E → Nat → Prop) : Prop :=
 (∀ args w, (callFunc f args).run P w = .ok (.enter f args) w) ∧ ∀ (g : G) (w : World) (us : List Value) (u : FrameMode), AC B g w st → CG B nb g w → vreps B g w vs us →
  ((rv = none ∧ u = .returning) ∨ ∃ v x, rv = some v ∧ u = .panicking [{ v := x, recovered := false }] ∧ vrep B g w v x) →
  CallsDIn Fence.wide 0 P f us.toArray u w fun e u' w' => ∃ x g' st' nb', e = .returned x ∧ settle u' = .returning ∧ BZ B g w g' w' ∧ AC B g' w' st' ∧ CG B nb' g' w' ∧ K st' nb'
def AaI (K : List E → Nat → Prop) : VE → St → Prop
 | .normal, s | .ret, s => K s.st s.nb
 | _, _ => False
theorem AU {P : Program} {f : FuncId} {fn : Func} {id d d2 : Nat} {tys1 : Array TypeId} {ty1 ty2 : TypeId} {pos1 pos2 : String} {af1 af2 : Array Edge} {c2 : Code} {B : Nat} {vs : List V} {rv : Option V} {st : List E} {nb : Nat} {K : List E → Nat → Prop} (hf : P.funcs[f]? = some fn)
  (hb : fn.body = some (.seq (.region id #[⟨some d, .call { callee := .builtin .recover, args := #[], argTypes := tys1 }, ty1, pos1, af1, none⟩, ⟨some d2, .assign (.tmp d), ty2, pos2, af2, none⟩] false) c2)) {N : Nat} (hN : fn.ntmps = N) (hrs0 : fn.results = #[])
  (h : VW P ⟨N, none, B, nb, none, []⟩ c2 ⟨(d2, W5 rv) :: (d, W5 rv) :: CF 0 vs, st, nb⟩ (AaI K)) (hle : Nat.ble vs.length N = true := by rfl) (hd : Nat.blt d N = true := by rfl) (hd2 : Nat.blt d2 N = true := by rfl) (hname : (fn.name == "runtime.NumGoroutine") = false := by kernel_rfl) : VDf P f B vs rv st nb K := by
 refine ⟨Bu hf hname (by rw [hb]; rfl), fun g w us u hs hi hus hu => ?_⟩
 refine callsDIn_of_wpSIn hf hb trivial fun c₀ cs hm => ?_
 have hS0 : Dg ⟨N, none, B, nb, none, []⟩ g { tmps := us.toArray ++ Array.replicate (fn.ntmps - us.toArray.size) undef, defers := [] } w ⟨CF 0 vs, st, nb⟩ := by
  rw [hN]; exact Gr hus hle hs hi ⟨(fun _ h => by first | (cases h; fail_if_success (focus skip)) | (cases h; exact Nat.le_refl _)), [], [], rfl, by simp, by simp, rfl⟩
 have hd := Nat.le_of_ble_eq_true hd
 have hd2 := Nat.le_of_ble_eq_true hd2
 apply wpSIn_seq
 apply wpSIn_region
 generalize hat : ({ tmps := us.toArray ++ Array.replicate (fn.ntmps - us.toArray.size) undef, defers := [] } : Act) = at0 at hS0
 obtain ⟨x, u', hx, hset, hrec⟩ : ∃ x u', vrep B g w (W5 rv) x ∧ settle u' = .returning ∧ ((recoverD (c₀ :: cs) = none ∧ x = .nilIface ∧ u' = u) ∨ recoverD (c₀ :: cs) = some (x, { c₀ with mode := u' } :: cs)) := by
  rcases hu with ⟨rfl, rfl⟩ | ⟨v, x, rfl, rfl, hx⟩
  ·exact ⟨.nilIface, .returning, by simp only [W5, vrep, drep], rfl, .inl ⟨by simp [recoverD, hm], rfl, rfl⟩⟩
  ·exact ⟨x, .panicking [{ v := x, recovered := true }], hx, rfl, .inr (by simp [recoverD, hm])⟩
 have key : ∀ cs', cs' = { c₀ with mode := u' } :: cs → c2.wpSIn Fence.wide 0 P (bodyPostS P fn c₀ cs fun e u' w' => ∃ x g' st' nb', e = .returned x ∧ settle u' = .returning ∧ BZ B g w g' w' ∧ AC B g' w' st' ∧ CG B nb' g' w' ∧ K st' nb') ((at0.put (some d) x).put (some d2) x) cs' w := by
  rintro cs' rfl
  refine wpSIn_of_wpIn rfl ?_
  have hS1 := hS0.put (BZ.refl _ _ _) (d := d) hd hs hi hx
  have hS2 := hS1.put (BZ.refl _ _ _) (d := d2) hd2 hs hi hx
  refine wpIn_mono (h 0 g w g _ w (Ei.refl _ _ _ _) hS2) ?_
  rintro e a' w' ⟨g', s', e', hE, hS', he, hq⟩
  have hEv := Ei.evo hE hi fun h => (by cases h)
  obtain ⟨_, bs, rr, hds, _, hbs, hrr⟩ := hS'.defers
  simp only [Mr] at hrr
  have hbe : bs = [] := by
   cases bs with
   | nil => rfl
   | cons b bs => obtain ⟨_, ⟨m, hm, _⟩, _⟩ := hbs b (by simp); cases hm
  have hd0 : a'.defers = [] := by rw [hds, hbe, hrr]; rfl
  have hres : (results fn a'.tmps).run P w' = .ok (.tuple #[]) w' := by simp [results, hrs0]
  cases e' with
  | normal => simp only [BV] at he; subst he; exact ⟨hd0, u', rfl, _, hres, _, g', _, _, rfl, hset, hEv, hS'.st, hS'.inv, hq⟩
  | ret => simp only [BV] at he; subst he; exact ⟨hd0, u', rfl, _, hres, _, g', _, _, rfl, hset, hEv, hS'.st, hS'.inv, hq⟩
  | panic v => exact hq.elim
  | exit id => exact hq.elim
  | goto l => exact hq.elim
 have hget : (at0.put (some d) x).tmps.getD d undef = x := JE (by rw [hS0.size]; exact hd)
 have hr : List.range 2 = [0, 1] := rfl
 generalize (fun (e : Ending) (u' : FrameMode) (w' : World) => ∃ x g' st' nb', e = .returned x ∧ settle u' = .returning ∧ BZ B g w g' w' ∧ AC B g' w' st' ∧ CG B nb' g' w' ∧ K st' nb') = R at key ⊢
 have hF : ∀ f, Fence.wide.fn f = True := fun _ => rfl
 rcases hrec with ⟨h1, rfl, rfl⟩ | h1
 ·have hc : ({ c₀ with mode := u' } : Frame) = c₀ := by rw [← hm]
  have := key (c₀ :: cs) (by rw [hc])
  simp [wpOpsSIn, hr, Region.wanted, execOp, resolve, invoke, builtin, hF, Act.eval, h1, Exit.thenS, hget]
  exact this
 ·have := key _ rfl
  simp [wpOpsSIn, hr, Region.wanted, execOp, resolve, invoke, builtin, hF, Act.eval, h1, Exit.thenS, hget]
  exact this
def Rs (K : St → Prop) (e : VE) (s : St) : Prop := e = .normal ∧ K s
def AbR (P : Program) (cx : Cx) (ops rest : List Oper) (K : St → Prop) : VE → St → Prop
 | .normal, s => VL P cx ops rest s (Rs K)
 | _, _ => False
def No (P : Program) (rs : List ResultVar) (tm : List (Nat × V)) (Q : RC → List E → Nat → Prop) (st : List E) (nb : Nat) : Prop := ∃ vs, Cr P ⟨tm, st, nb⟩ rs vs ∧ Q (.ret (Dq vs)) st nb
def Ue (P : Program) (B : Nat) (rs : List ResultVar) (f : FuncId) (ca : List V) (Q : RC → List E → Nat → Prop) : VE → St → Prop
 | .normal, s | .ret, s => VDf P f B ca none s.st s.nb (No P rs s.tm Q)
 | .panic v, s => VDf P f B ca (some v) s.st s.nb (No P rs s.tm Q)
 | _, _ => False
def WP (P : Program) (N B nb M : Nat) (fd : FuncId) (x : Tmp) (c2 : Code) (rs : List ResultVar) (Q : RC → List E → Nat → Prop) (s2 : St) : Prop := ∃ ca, AA x s2.tm = some (.fn (.func fd) [] ca) ∧ VW P ⟨N, none, B, nb, some M, [(fd, ca)]⟩ c2 s2 (Ue P B rs fd ca Q)
theorem AN {P : Program} {f fd : FuncId} {fn : Func} {r0 c2 : Code} {id x : Nat} {o1 : Oper} {tys : Array TypeId} {ty : TypeId} {pos : String} {af : Array Edge} {B : Nat} {vs : List V} {st : List E} {nb : Nat} {Q : RC → List E → Nat → Prop} (hf : P.funcs[f]? = some fn)
  (hb : fn.body = some (.seq r0 (.seq (.region id #[o1, ⟨none, .defer { callee := .value (.tmp x), args := #[], argTypes := tys }, ty, pos, af, none⟩] false) c2))) {N : Nat} (hN : fn.ntmps = N) {rs : List ResultVar} (hrs0 : fn.results = rs.toArray)
  (h : ∀ M, VW P ⟨N, none, B, nb, none, []⟩ r0 ⟨CF 0 vs, st, nb⟩ (AbR P ⟨N, none, B, nb, none, []⟩ [o1, ⟨none, .defer { callee := .value (.tmp x), args := #[], argTypes := tys }, ty, pos, af, none⟩] [o1] (WP P N B nb M fd x c2 rs Q)))
  (hle : Nat.ble vs.length N = true := by rfl) (hname : (fn.name == "runtime.NumGoroutine") = false := by kernel_rfl) : VC P f B vs st nb Q := by
 refine ⟨Bu hf hname (by rw [hb]; rfl), ?_⟩
 have hrs : fn.results.toList = rs := by rw [hrs0]
 intro g w us hs hi hus
 rw [← callsIn_wide (n := 0)]
 refine callsIn_of_wp_marks hf hb trivial ?_
 have hS : Dg ⟨N, none, B, nb, none, []⟩ g { tmps := us.toArray ++ Array.replicate (fn.ntmps - us.toArray.size) undef, defers := [] } w ⟨CF 0 vs, st, nb⟩ := by
  rw [hN]; exact Gr hus hle hs hi ⟨(fun _ h => by first | (cases h; fail_if_success (focus skip)) | (cases h; exact Nat.le_refl _)), [], [], rfl, by simp, by simp, rfl⟩
 refine wpIn_seq (wpIn_mono (h w.heap.size 0 g w g _ w (Ei.refl _ _ _ _) hS) ?_)
 rintro e a1 w1 ⟨g1, s1, e1, hE1, hS1, he1, hq1⟩
 cases e1 with
 | exit id => exact hq1.elim
 | goto l => exact hq1.elim
 | ret => exact hq1.elim
 | panic v => exact hq1.elim
 | normal =>
 simp only [BV] at he1; subst he1
 refine wpIn_seq ?_
 have hops : ∀ (os : List Oper), (Code.region id #[o1, ⟨none, .defer { callee := .value (.tmp x), args := #[], argTypes := tys }, ty, pos, af, none⟩] false) = Code.region id [o1, ⟨none, .defer { callee := .value (.tmp x), args := #[], argTypes := tys }, ty, pos, af, none⟩].toArray false := fun _ => rfl
 rw [hops []]
 refine If ?_
 have hq := hq1 0 g w g1 a1 w1 hE1 hS1
 have happ : ∀ {F : Fence} {n : Nat} {ops : Array Oper} {Q1 Q2 : Exit → Act → World → Prop} {o d : Oper} {a : Act} {w : World}, BH F n P ops Q1 [o] a w → (∀ e a' w', Q1 e a' w' → e = .normal ∧ BH F n P ops Q2 [d] a' w') → BH F n P ops Q2 [o, d] a w := fun {F n ops Q1 Q2 o d a w} h hm => by
  simp only [BH] at h hm ⊢
  have hm' : ∀ a' w', Q1 .normal a' w' → _ := fun a' w' h => (hm _ a' w' h).2
  split at h
  ·rename_i hw
   rw [if_pos hw]
   unfold Oper.wpIn at h ⊢
   refine ⟨h.1, ?_⟩
   have h2 := h.2
   generalize (o.semAt F.round a.eval).run P w = r at *
   cases r with
   | ok x w' =>
    cases x <;> simp only [Oper.uponIn] at h2 ⊢ <;>
     first
      | exact hm' _ _ h2
      | exact ⟨h2.1, CallsIn.mono h2.2 (fun e w'' he => by cases e <;> first | exact hm' _ _ he | (have := (hm _ _ _ he).1; cases this) | (obtain ⟨_, _, he⟩ := he; have := (hm _ _ _ he).1; cases this))⟩
      | exact ⟨h2.1, RowsIn.mono h2.2 (fun _ _ he => hm' _ _ he)⟩
      | exact ⟨h2.1, RoundIn.mono h2.2 (fun e w'' he => by cases e <;> first | exact hm' _ _ he | (have := (hm _ _ _ he).1; cases this) | (obtain ⟨_, _, he⟩ := he; have := (hm _ _ _ he).1; cases this))⟩
   | halt x w' => cases x <;> simp only [Oper.uponIn] at h2 ⊢ <;> first | exact h2 | (have := (hm _ _ _ h2).1; cases this)
  ·rename_i hw
   rw [if_neg hw]
   exact ⟨h.1, hm' _ _ h.2⟩
 refine happ hq ?_
 rintro e a2 w2 ⟨g2, s2, e2, hE2, hS2, he2, he3, ca, hca, hc2⟩
 subst he3
 simp only [BV] at he2
 refine ⟨he2, ?_⟩
 have hV := hS2.tm hca
 simp only [vrep, vreps] at hV
 obtain ⟨xs, ys, hV, rfl, hys⟩ := hV
 simp only [BH]
 rw [if_pos (by rfl)]
 refine ⟨fun _ _ => trivial, ?_⟩
 have hrun : (Oper.semAt Fence.wide.round a2.eval (⟨none, .defer { callee := .value (.tmp x), args := #[], argTypes := tys }, ty, pos, af, none⟩ : Oper)).run P w2 = .ok (.defer { target := .fn (.func fd) ys.toArray, args := #[] }) w2 := by
  rw [show Fence.wide.round = none from rfl, Oper.semAt_none]
  simp [execOp, resolve, Act.eval, hV, Deferred.ofValue]
 rw [hrun]
 simp only [Oper.uponIn]
 have hS3 : Dg ⟨N, none, B, nb, some w.heap.size, [(fd, ca)]⟩ g2 { (a2.put none undef) with defers := { target := .fn (.func fd) ys.toArray, args := #[] } :: a2.defers } w2 s2 := by
  obtain ⟨_, bs, r, e1, e2, e3, e4⟩ := hS2.defers
  simp only [Mr] at e4
  have hbe : bs = [] := by
   cases bs with
   | nil => rfl
   | cons b bs => obtain ⟨_, ⟨m, hm, _⟩, _⟩ := e3 b (by simp); cases hm
  subst hbe; subst e4
  refine ⟨hS2.size, hS2.tm, hS2.st, hS2.inv, ⟨fun _ h => by cases h; exact hE2.size, [], [_], by rw [e1]; rfl, by simp, by simp, ys, [], rfl, hys, rfl⟩⟩
 refine wpIn_mono (hc2 0 g w g2 _ w2 (hE2.up fun h => by cases h) hS3) ?_
 rintro e a3 w3 ⟨g3, s3, e3, hE3, hS3', he3, hq3⟩
 have hEv := Ei.evo hE3 hi fun h => by cases h; exact Nat.le_refl _
 obtain ⟨_, bs, rr, hds, hnd, hbs0, us3, r3, hrr, hus3, hr3⟩ := hS3'.defers
 simp only [Mr] at hr3
 subst hr3
 have hbs : ∀ b ∈ bs, g3.prot b ∧ w.heap.size ≤ b ∧ w3.heap[b]? = some (.deferred (some [])) := fun b hb => by
  obtain ⟨h1, ⟨m, h2, h3⟩, h4⟩ := hbs0 b hb
  cases h2; exact ⟨h1, h3, h4⟩
 have hout : ∀ (rv : Option V) (u : FrameMode), u ≠ .run → ((rv = none ∧ u = .returning) ∨ ∃ v x, rv = some v ∧ u = .panicking [{ v := x, recovered := false }] ∧ vrep B g3 w3 v x) →
   VDf P fd B ca rv s3.st s3.nb (No P rs s3.tm Q) →
   LeavesInM Fence.wide 0 P fn a3.tmps (fun e w' => ∃ g' st' nb' r, BZ B g w g' w' ∧ AC B g' w' st' ∧ CG B nb' g' w' ∧ Hb B g' w' r e ∧ Q r st' nb') a3.defers u w3 := fun rv u hu hrv hV => by
  rw [hds, hrr]
  refine FT hu bs w3 hnd (fun b hb => (hbs b hb).2.2) fun w4 hl => ?_
  have C := DR hl fun b hb => (hbs b hb).2.2
  have hEv4 := Lq hEv (fun _ h => hi.exlt h) hl (fun b hb => (hbs b hb).2.1)
  have hi4 : CG B s3.nb g3 w4 := hS3'.inv.evo (by rw [hl.size]; exact Nat.le_refl _)
  simp only [LeavesInM]
  refine ⟨hu, .inr ⟨fun _ => by simp_all [Fence.wide], .func fd, us3.toArray, fd, us3.toArray, rfl, ?_, fun _ _ => trivial, ?_⟩⟩
  ·simp only [invoke, Array.empty_append]; exact hV.1 _ _
  ·refine (hV.2 g3 w4 us3 u (De C hS3'.st) hi4 (DY C hus3) ?_).mono ?_
   ·rcases hrv with h | ⟨v, x, h1, h2, h3⟩
    ·exact .inl h
    ·exact .inr ⟨v, x, h1, h2, BW C h3⟩
   ·rintro e u' w5 ⟨x, g5, st5, nb5, rfl, hset, k1, k2, k3, vs5, k4, k5⟩
    simp only [hset]
    have hS5 : Dg ⟨N, none, B, nb, none, []⟩ g5 { a3 with defers := [] } w5 ⟨s3.tm, st5, nb5⟩ :=
     ⟨hS3'.size, fun hx => k1.vrep (BW C (hS3'.tm hx)), k2, k3, ⟨(fun _ h => by first | (cases h; fail_if_success (focus skip)) | (cases h; exact Nat.le_refl _)), [], [], rfl, by simp, by simp, rfl⟩⟩
    obtain ⟨u6, h1, h2⟩ := Cr.all (fn := fn) hS5 (fun _ _ => rfl) (by rw [hrs]; exact k4)
    simp only [LeavesIn]
    exact ⟨u6, h1, g5, st5, nb5, .ret (Dq vs5), hEv4.trans k1, k2, k3, ⟨u6, rfl, h2⟩, k5⟩
 cases e3 with
 | normal => simp only [BV] at he3; subst he3; exact hout none .returning (by simp) (.inl ⟨rfl, rfl⟩) hq3
 | ret => simp only [BV] at he3; subst he3; exact hout none .returning (by simp) (.inl ⟨rfl, rfl⟩) hq3
 | panic v =>
  obtain ⟨u, rfl, hu⟩ := he3
  exact hout (some v) _ (by simp) (.inr ⟨v, u, rfl, rfl, hu⟩) hq3
 | exit id => exact hq3.elim
 | goto l => exact hq3.elim
section
variable {P : Program} {cx : Cx} {Q : RC → List E → Nat → Prop} {ops rest : List Oper} {tm : List (Nat × V)} {st : List E} {nb : Nat}
theorem XN {K : St → Prop} {s : St} (h : K s) : Rs K .normal s := ⟨rfl, h⟩
theorem Va {N B nb0 M : Nat} {fd : FuncId} {x : Tmp} {c2 : Code} {rs : List ResultVar} {s : St} (h : WP P N B nb0 M fd x c2 rs Q s) : WP P N B nb0 M fd x c2 rs Q s := h
theorem Aaf {N B nb0 M : Nat} {fd : FuncId} {x : Tmp} {c2 : Code} {rs : List ResultVar} {ca : List V} (k : VW P ⟨N, none, B, nb0, some M, [(fd, ca)]⟩ c2 ⟨tm, st, nb⟩ (Ue P B rs fd ca Q)) (h : AA x tm = some (.fn (.func fd) [] ca) := by rfl) : WP P N B nb0 M fd x c2 rs Q ⟨tm, st, nb⟩ := ⟨ca, h, k⟩
theorem Ve {rs : List ResultVar} (h : No P rs tm Q st nb) : No P rs tm Q st nb := h
theorem Aai {rs : List ResultVar} {vs : List V} {v : V} (k : Q (.ret v) st nb)
  (h : Cr P ⟨tm, st, nb⟩ rs vs := by repeat' (first | exact Cr.nil | (apply Cr.tmp; rfl) | (apply Cr.cell; infer_instance; rfl; rfl) | (apply Cr.cells; infer_instance; rfl; rfl))) (hp : MI vs = some v := by rfl) : No P rs tm Q st nb := ⟨vs, h, by rw [Lk hp]; exact k⟩
end

end Go.Proofs.YtbgcjnfhadhjeaaGreat