/- Walks by data and names, part 3: Regions that draw their order, in walks: each operation is shown once, of what it waits for alone. Calls that are walked through where they stand: what is handed over may lead to the caller's own. A function that catches: a call is deferred, and what it catches is told. -/
import Derived.OrdersIn
import Derived.RecoverIn
import Derived.Test.YtjfaihpiohccbaaPk2
namespace Go.Proofs.Ytjfaihpiohccbaa
open Go.RowKit

/-- what is new has that name, if any -/
structure NewO (B : Nat) (g : G) (w : World) (g' : G) (w' : World) (k : Option Nat) : Prop where
  evo : Evo B g w g' w'
  keep : ∀ b, b < w.heap.size → w'.heap[b]? = w.heap[b]?
  same : ∀ i, some i ≠ k → g'.bx i = g.bx i ∧ g'.rb i = g.rb i ∧ g'.rw i = g.rw i
theorem New.o {B : Nat} {g : G} {w : World} {g' : G} {w' : World} {k : Nat} (h : New B g w g' w' k) : NewO B g w g' w' (some k) := ⟨h.evo, h.keep, fun i hi => h.same i (fun e => hi (by rw [e]))⟩
theorem SimS.newO {B nb : Nat} {g g' : G} {w w' : World} {k : Option Nat} (h : NewO B g w g' w' k) (hi : Inv B nb g w) (hf : ∀ i, k = some i → Free g i) {st : List E} (hs : SimS B g w st) : SimS B g' w' st := by
  refine ⟨fun {i o x} hc => ?_, fun {i o nw ver e sz l} hr => ?_, fun {i r T tm0} hl => ?_⟩
  · obtain ⟨b, rcs, ty, u, m1, m2, m3, m4⟩ := hs.cell hc
    exact ⟨b, rcs, ty, u, h.evo.bx m1, (h.keep b (hi.bxlt m1).1).trans m2, m3, h.evo.vrep m4⟩
  · obtain ⟨v, xs, r1, _⟩ := hs.row hr
    have hne : some i ≠ k := fun e => by rw [(hf i e.symm).2.2] at r1; cases r1
    exact hs.keepRow h.evo (x := none) ⟨h.evo.os, h.evo.tape, h.evo.output, h.evo.size, fun b hb _ => h.keep b hb⟩ (h.same i hne).2.1 (h.same i hne).2.2 (by simp) hr
  · obtain ⟨h1, h2⟩ := hs.loop hl
    exact ⟨fun lp e => let ⟨b, m1, m2⟩ := h1 lp e; ⟨b, h.evo.bx m1, (h.keep b (hi.bxlt m1).1).trans m2⟩, fun ht => h.evo.vrep (h2 ht)⟩
theorem SimS.appS {B : Nat} {g : G} {w : World} : ∀ {es : List E}, ∀ {st : List E}, SimS B g w es → SimS B g w st → (es = [] ∨ ∃ e, es = [e]) → SimS B g w (es ++ st)
  | [], _, _, h, _ => h
  | [_], _, h1, h2, _ => h1.cons h2
  | _ :: _ :: _, _, _, _, h => by rcases h with h | ⟨_, h⟩ <;> simp at h

/-- an operation of a region that draws its order, of these slots and this log -/
def OpN (P : Program) (cx : Cx) (o : Oper) (tm : List (Nat × V)) (st : List E) (nm : Option Nat) (v : V) (ent : List E) : Prop :=
  ∀ (n nb : Nat) (g : G) (a : Act) (w : World) (K : Act → World → Prop) (Qx : Exit → Act → World → Prop), (∀ k, nm = some k → k < nb ∧ Free g k) → Sim cx g a w ⟨tm, st, nb⟩ →
    (∀ u g' w', NewO cx.B g w g' w' nm → SimS cx.B g' w' ent → Inv cx.B nb g' w' → vrep cx.B g' w' v u → K (a.put o.dst u) w') → o.wpIn (FW cx.rd) n P a w K Qx

/-- no row of that name -/
def noR (k : Nat) : List E → Bool
  | [] => true
  | .r _ _ k' _ _ _ _ :: s => (match Nat.beq k k' with
    | true => false
    | false => noR k s)
  | .c k' _ _ :: s => (match Nat.beq k k' with
    | true => false
    | false => noR k s)
  | .y _ _ _ _ :: s => noR k s
theorem noR_row {k : Nat} : ∀ {st : List E}, noR k st = true → rowAt k st = none
  | [], _ => rfl
  | .c k' _ _ :: s, h => by
    simp only [noR] at h
    split at h
    · cases h
    · simp only [rowAt]; exact noR_row h
  | .y .. :: s, h => by simp only [noR] at h; simp only [rowAt]; exact noR_row h
  | .r _ _ k' _ _ _ _ :: s, h => by
    simp only [noR] at h
    split at h
    · cases h
    · rename_i hb; simp only [rowAt, hb]; exact noR_row h
theorem noR_cell {k o : Nat} : ∀ {st : List E}, noR k st = true → cellAt k o st = none
  | [], _ => rfl
  | .c k' _ _ :: s, h => by
    simp only [noR] at h
    split at h
    · cases h
    · rename_i hb; simp only [cellAt, hb]; exact noR_cell h
  | .y .. :: s, h => by simp only [noR] at h; simp only [cellAt]; exact noR_cell h
  | .r _ _ k' _ _ _ _ :: s, h => by
    simp only [noR] at h
    split at h
    · cases h
    · simp only [cellAt]; exact noR_cell h
theorem noR_mem {k : Nat} : ∀ {st : List E}, noR k st = true → ∀ e ∈ st, noR k [e] = true
  | [], _, e, he => by simp at he
  | .c k' _ _ :: s, h, e, he => by
    simp only [noR] at h
    split at h
    · cases h
    · rename_i hb
      rcases List.mem_cons.1 he with rfl | he
      · simp only [noR, hb]
      · exact noR_mem h e he
  | .y .. :: s, h, e, he => by
    simp only [noR] at h
    rcases List.mem_cons.1 he with rfl | he
    · rfl
    · exact noR_mem h e he
  | .r _ _ k' _ _ _ _ :: s, h, e, he => by
    simp only [noR] at h
    split at h
    · cases h
    · rename_i hb
      rcases List.mem_cons.1 he with rfl | he
      · simp only [noR, hb]
      · exact noR_mem h e he
theorem simS_tail {B : Nat} {g : G} {w : World} {st : List E} {o nw : Bool} {k ver : Nat} {e : TypeId} {sz : Nat} {l : List (List D)} (h : SimS B g w (.r o nw k ver e sz l :: st)) (hn : noR k st = true) : SimS B g w st := by
  refine ⟨fun hc => h.cell (by simp only [cellAt]; exact hc), fun {i o nw ver e sz l} hr => h.row ?_, fun hl => h.loop (by simp only [loopAt]; exact hl)⟩
  simp only [rowAt]
  split
  · rename_i hb
    have := Nat.eq_of_beq_eq_true hb
    subst this
    rw [noR_row hn] at hr; cases hr
  · exact hr
theorem simS_tailc {B : Nat} {g : G} {w : World} {st : List E} {k off : Nat} {vs : List V} (h : SimS B g w (.c k off vs :: st)) (hn : noR k st = true) : SimS B g w st := by
  refine ⟨fun {i o x} hc => h.cell ?_, fun hr => h.row (by simp only [rowAt]; exact hr), fun hl => h.loop (by simp only [loopAt]; exact hl)⟩
  simp only [cellAt]
  split
  · rename_i hb
    have := Nat.eq_of_beq_eq_true hb
    subst this
    rw [noR_cell hn] at hc; cases hc
  · exact hc
theorem simS_skip {B : Nat} {g : G} {w : World} {st : List E} {o nw o' nw' : Bool} {k ver ver' : Nat} {e e' : TypeId} {sz sz' : Nat} {l l' : List (List D)} (h : SimS B g w (.r o nw k ver e sz l :: .r o' nw' k ver' e' sz' l' :: st)) : SimS B g w (.r o nw k ver e sz l :: st) := by
  refine ⟨fun hc => h.cell (by simpa only [cellAt] using hc), fun {i o nw ver e sz l} hr => h.row ?_, fun hl => h.loop (by simpa only [loopAt] using hl)⟩
  simp only [rowAt] at hr ⊢
  split
  · rename_i hb; simp only [hb] at hr; exact hr
  · rename_i hb; simp only [hb] at hr; exact hr
/-- one that turns row k, of which E0 was said -/
def OpC (P : Program) (cx : Cx) (o : Oper) (tm : List (Nat × V)) (st : List E) (k : Nat) (E0 : E) (v : V) (ent : E) : Prop :=
  ∀ (n nb : Nat) (g : G) (a : Act) (w : World) (K : Act → World → Prop) (Qx : Exit → Act → World → Prop), Sim cx g a w ⟨tm, E0 :: st, nb⟩ → SimS cx.B g w [E0] →
    (∀ u g' w', Evo cx.B g w g' w' → (∀ i, i ≠ k → g'.bx i = g.bx i ∧ g'.rb i = g.rb i ∧ g'.rw i = g.rw i) → (∀ st', noR k st' = true → SimS cx.B g w st' → SimS cx.B g' w' st') → SimS cx.B g' w' [ent] → Inv cx.B nb g' w' → vrep cx.B g' w' v u → K (a.put o.dst u) w') → o.wpIn (FW cx.rd) n P a w K Qx

section
variable {P : Program} {cx : Cx}
theorem OpN.ofQ {o : Oper} {tm : List (Nat × V)} {st : List E} {v : V} (h : ∀ nb, OpQ P cx o.op o.type ⟨tm, st, nb⟩ v) (hn : noDefer o.op = true) : OpN P cx o tm st none v [] := fun n nb g a w K Qx _ hS hK => by
  obtain ⟨u, h1, h2⟩ := h nb g a w hS
  refine ⟨fun _ _ => trivial, ?_⟩
  rw [Oper.semAt_plain (FW cx.rd) _ _ (by intro c e; rw [e] at hn; cases hn), execOp_bare, h1]
  exact hK u g w ⟨Evo.refl _ _ _, fun _ _ => rfl, fun _ _ => ⟨rfl, rfl, rfl⟩⟩ SimS.nil hS.inv h2
theorem OpN.ofR {o : Oper} {tm : List (Nat × V)} {st : List E} {v : V} {k : Nat} {e : E} (h : OpR P cx o.op o.type tm st v k e) (hn : noDefer o.op = true) : OpN P cx o tm st (some k) v [e] := fun n nb g a w K Qx hk hS hK => by
  obtain ⟨u, g', w', h1, h2, h3, h4, h5⟩ := h nb g a w (hk k rfl).1 (hk k rfl).2 hS
  refine ⟨fun _ _ => trivial, ?_⟩
  rw [Oper.semAt_plain (FW cx.rd) _ _ (by intro c e; rw [e] at hn; cases hn), execOp_bare, h1]
  exact hK u g' w' h2.o h3 h4 h5
/-- a call -/
theorem call_wpIn {n nb : Nat} {g : G} {a : Act} {w : World} {tm : List (Nat × V)} {st : List E} {x : Operand} {f : FuncId} {xs : Array Operand} {tys : Array TypeId} {ty : TypeId} {pos : String} {af : Array Edge} {gd : Option (Nat × Bool)} {dst : Option Tmp} {v : V} {vs az : List V} {ds' ds : List D} {post : R → Prop} {K : Act → World → Prop} {Qx : Exit → Act → World → Prop}
    (hx : evalV ⟨tm, st, nb⟩ x = some v) (hv : evalVs ⟨tm, st, nb⟩ xs.toList = some vs) (hf : fnV v vs = some (f, az)) (ha : AD st az ds') (hd : DLs ds' ds) (hc : VP P f ds post) (hS : Sim cx g a w ⟨tm, st, nb⟩)
    (hK : ∀ e w' r, Below w.heap.size w w' → post r → rrel w.heap.size (fun b => g.prot b ∨ w.heap.size ≤ b) w' r e → match e with
      | .returned v => K (a.put dst v) w'
      | .panicked ch => Qx (.panic ch) a w'
      | .outgrown => False) : (⟨dst, .call { callee := .value x, args := xs, argTypes := tys }, ty, pos, af, gd⟩ : Oper).wpIn (FW cx.rd) n P a w K Qx := by
  refine ⟨fun _ _ => trivial, ?_⟩
  rw [Oper.semAt_plain (FW cx.rd) _ _ (by intro c e; cases e)]
  obtain ⟨zs, hrun, hzs⟩ := call_run (P := P) (w := w) (dst := dst) (tys := tys) (ty := ty) (pos := pos) (af := af) (gd := gd) hc.1 hS hx hv hf
  rw [hrun, Oper.uponIn_enter]
  refine ⟨(fun h => by cases h), ?_⟩
  have hargs := hd.le _ w.heap.size _ _ _ (ha.h _ _ _ _ hS.st hzs)
  have hcall := hc.2 g.prot w _ hargs
  have hmem : ∀ (r : Ending → World → Prop), Calls P f zs.toArray w r → CallsIn (FW cx.rd) (n - 1) P f zs.toArray w r := fun r h =>
    ⟨trivial, fun cs _ => by
      obtain ⟨e, w', fr, hr, hcm, hx⟩ := h cs
      refine ⟨e, w', fr, hr, ?_, hx⟩
      have := comesIn_wide.2 hcm
      cases e with
      | returned v => exact StepsIn.mono (fun m _ => fenced_FW P cx.rd m) this
      | panicked ch => exact StepsIn.mono (fun m _ => fenced_FW P cx.rd m) this
      | outgrown => exact this⟩
  refine (hmem _ hcall).mono ?_
  rintro e w' ⟨hb, r, hp, hr⟩
  have := hK e w' r hb hp hr
  cases e with
  | returned v => exact this
  | panicked ch => exact this
  | outgrown => exact this.elim
theorem prot_new {B nb : Nat} {g : G} {w : World} (hi : Inv B nb g w) : ∀ b, g.prot b ∨ w.heap.size ≤ b → g.prot b := fun b h => by
  rcases h with h | h
  · exact h
  · rintro (ho | ⟨k, ho⟩ | ⟨k, ho⟩)
    · have := hi.exlt ho; omega
    · have := (hi.bxlt ho).1; omega
    · have := (hi.rblt ho).1; omega
theorem evalV_nbx {tm : List (Nat × V)} {st : List E} {nb nb' : Nat} {x : Operand} : evalV ⟨tm, st, nb⟩ x = evalV ⟨tm, st, nb'⟩ x := by cases x <;> rfl
theorem evalVs_nb {tm : List (Nat × V)} {st : List E} {nb nb' : Nat} : ∀ {l : List Operand}, evalVs ⟨tm, st, nb⟩ l = evalVs ⟨tm, st, nb'⟩ l
  | [] => rfl
  | x :: r => by
    have e1 : evalV ⟨tm, st, nb⟩ x = evalV ⟨tm, st, nb'⟩ x := by cases x <;> rfl
    simp only [evalVs, e1, evalVs_nb (nb := nb) (nb' := nb') (l := r)]
theorem OpN.ret {x : Operand} {f : FuncId} {xs : Array Operand} {tys : Array TypeId} {ty : TypeId} {pos : String} {af : Array Edge} {gd : Option (Nat × Bool)} {dst : Option Tmp} {tm : List (Nat × V)} {st : List E} {v : V} {vs az : List V} {ds' ds : List D} {d : D}
    (hc : VP P f ds (· = .ret d)) (hx : evalV ⟨tm, st, 0⟩ x = some v) (hv : evalVs ⟨tm, st, 0⟩ xs.toList = some vs) (hf : fnV v vs = some (f, az)) (ha : AD st az ds') (hd : DLs ds' ds) : OpN P cx ⟨dst, .call { callee := .value x, args := xs, argTypes := tys }, ty, pos, af, gd⟩ tm st none (.d d) [] := fun n nb g a w K Qx _ hS hK => by
  refine call_wpIn (hx := by rw [← hx]; exact evalV_nbx) (hv := by rw [← hv]; exact evalVs_nb) hf ha hd hc hS fun e w' r hb hp hr => ?_
  subst hp
  obtain ⟨u, rfl, hu⟩ := hr
  refine hK u g w' ⟨Evo.of_below hS.inv hb, fun b hb' => hb.block b hb', fun _ _ => ⟨rfl, rfl, rfl⟩⟩ SimS.nil (hS.inv.evo hb.size) ?_
  simp only [vrep]
  exact drep_mono hS.inv.base (fun b _ h => ⟨prot_new hS.inv b h, rfl⟩) hu
theorem OpN.own {x : Operand} {f : FuncId} {xs : Array Operand} {tys : Array TypeId} {ty : TypeId} {pos : String} {af : Array Edge} {gd : Option (Nat × Bool)} {dst : Option Tmp} {tm : List (Nat × V)} {st : List E} {v : V} {vs az : List V} {ds' ds : List D} {e : TypeId} {sz k : Nat} {l : List (List D)}
    (hc : VP P f ds (· = .own e sz l)) (hx : evalV ⟨tm, st, 0⟩ x = some v) (hv : evalVs ⟨tm, st, 0⟩ xs.toList = some vs) (hf : fnV v vs = some (f, az)) (ha : AD st az ds') (hd : DLs ds' ds) : OpN P cx ⟨dst, .call { callee := .value x, args := xs, argTypes := tys }, ty, pos, af, gd⟩ tm st (some k) (.row k 0) [.r true true k 0 e sz l] := fun n nb g a w K Qx hk hS hK => by
  refine call_wpIn (hx := by rw [← hx]; exact evalV_nbx) (hv := by rw [← hv]; exact evalVs_nb) hf ha hd hc hS fun e' w' r hb hp hr => ?_
  subst hp
  obtain ⟨u, xs', rfl, h1, h2, h3⟩ := hr
  obtain ⟨m1, m2, m3, m4⟩ := new_row hS.inv (hk k rfl).2 (hk k rfl).1 hb (drepss_mono hS.inv.base (fun b _ h => ⟨⟨prot_new hS.inv b h.1, h.2⟩, rfl⟩) h1) h2 h3
  exact hK u _ w' m1.o m2 m3 m4
end

/-- the slot of an operation's guard -/
def gT (l : List Oper) (o : Oper) : List Tmp := match o.guard with
  | none => []
  | some (j, _) => match (l[j]?).bind (·.dst) with
    | some t => [t]
    | none => []
/-- an operation that may have a guard -/
def OpI (P : Program) (cx : Cx) (l : List Oper) (o : Oper) (tm : List (Nat × V)) (st : List E) (nm : Option Nat) (v : V) (ent : List E) : Prop :=
  ∀ (n nb : Nat) (g : G) (a : Act) (w : World) (K : Act → World → Prop) (Qx : Exit → Act → World → Prop), (∀ k, nm = some k → k < nb ∧ Free g k) → Sim cx g a w ⟨tm, st, nb⟩ →
    (∀ u g' w', NewO cx.B g w g' w' nm → SimS cx.B g' w' ent → Inv cx.B nb g' w' → vrep cx.B g' w' v u → K (a.put o.dst u) w') →
    if Region.wanted o (yielded l.toArray a.tmps) then o.wpIn (FW cx.rd) n P a w K Qx else (∀ f, o.about P w a.eval = some f → (FW cx.rd).fn f) ∧ K (a.put o.dst undef) w
theorem OpI.of {P : Program} {cx : Cx} {l : List Oper} {o : Oper} {tm : List (Nat × V)} {st : List E} {nm : Option Nat} {v : V} {ent : List E} (hw : Wd l tm o.guard) (h : OpN P cx o tm st nm v ent) : OpI P cx l o tm st nm v ent := fun n nb g a w K Qx hk hS hK => by
  rw [if_pos (Wd.wanted (s := ⟨tm, st, nb⟩) hS hw)]
  exact h n nb g a w K Qx hk hS hK
theorem OpI.skip {P : Program} {cx : Cx} {l : List Oper} {o : Oper} {tm : List (Nat × V)} {st : List E} {j : Nat} {b : Bool} {t : Nat} {v v' : V} (hg : o.guard = some (j, b)) (h1 : (l[j]?).bind (·.dst) = some t) (h2 : lookT t tm = some v) (hc : SkipB b v ∨ v = .d (.lit undef)) (hv : v' = .d (.lit undef) ∨ v' = .d .any) : OpI P cx l o tm st none v' [] := fun n nb g a w K Qx _ hS hK => by
  have h3 := hS.tm h2
  have hw : Region.wanted o (yielded l.toArray a.tmps) = false := by
    rcases hc with hc | rfl
    · obtain ⟨c, rfl, hc'⟩ := hc.of
      simp only [vrep, drep] at h3
      have h4 : a.tmps[t]? = some (.bool c) := by
        cases hq : a.tmps[t]? with
        | none => rw [Array.getD_eq_getD_getElem?, hq] at h3; simp [undef] at h3
        | some x => rw [Array.getD_eq_getD_getElem?, hq] at h3; simp at h3; rw [h3]
      simp only [Region.wanted, hg, yielded, List.getElem?_toArray, h1, Option.bind_some, h4]
      simpa using hc'
    · simp only [vrep, drep] at h3
      simp only [Region.wanted, hg, yielded, List.getElem?_toArray, h1, Option.bind_some]
      rw [Array.getD_eq_getD_getElem?] at h3
      cases hq : a.tmps[t]? with
      | none => rfl
      | some x => rw [hq] at h3; simp only [Option.getD_some] at h3; subst h3; rfl
  rw [if_neg (by rw [hw]; simp)]
  exact ⟨fun _ _ => trivial, hK undef g w ⟨Evo.refl _ _ _, fun _ _ => rfl, fun _ _ => ⟨rfl, rfl, rfl⟩⟩ SimS.nil hS.inv (by rcases hv with rfl | rfl <;> simp only [vrep, drep])⟩

/-! ### what has been done -/
structure Ac where
  i : Nat
  d : Tmp
  v : V
  e : List E
  vis : List E
  nm : Option Nat
  /-- the row that it turns, and what was said of it -/
  c : Option (Nat × E)
  /-- what it makes true; e is this, or nothing (then it is left to one behind it) -/
  p : List E
  /-- whose row it turns; none: of the log -/
  r : Option Nat
/-- all of that name -/
def namR (nb : Nat) : List E → Bool
  | [] => true
  | .r _ _ k' _ _ _ _ :: s => (match Nat.beq nb k' with
    | true => namR nb s
    | false => false)
  | .c k' _ _ :: s => (match Nat.beq nb k' with
    | true => namR nb s
    | false => false)
  | .y _ _ _ _ :: s => namR nb s
theorem namR_spec {nb k : Nat} (hk : nb ≠ k) : ∀ {st : List E}, namR nb st = true → noR k st = true
  | [], _ => rfl
  | .c k' _ _ :: s, h => by
    simp only [namR] at h
    split at h
    · rename_i hb
      have := Nat.eq_of_beq_eq_true hb
      simp only [noR]
      rw [show Nat.beq k k' = false from by
        cases hb : Nat.beq k k'
        · rfl
        · have := Nat.eq_of_beq_eq_true hb; omega]
      exact namR_spec hk h
    · cases h
  | .y .. :: s, h => by simp only [namR] at h; simp only [noR]; exact namR_spec hk h
  | .r _ _ k' _ _ _ _ :: s, h => by
    simp only [namR] at h
    split at h
    · rename_i hb
      have := Nat.eq_of_beq_eq_true hb
      simp only [noR]
      rw [show Nat.beq k k' = false from by
        cases hb : Nat.beq k k'
        · rfl
        · have := Nat.eq_of_beq_eq_true hb; omega]
      exact namR_spec hk h
    · cases h
/-- it turns this row -/
def hasC (k : Nat) (x : Ac) : Bool := match x.c with
  | some p => Nat.beq k p.1
  | none => false
def noC (k : Nat) : List Ac → Bool
  | [] => true
  | x :: l => match hasC k x with
    | true => false
    | false => noC k l
theorem noC_spec {k : Nat} : ∀ {l : List Ac}, noC k l = true → ∀ x ∈ l, ∀ E0, x.c ≠ some (k, E0)
  | [], _, x, hx, _ => by simp at hx
  | y :: l, h, x, hx, E0 => by
    simp only [noC] at h
    split at h
    · cases h
    · rename_i hb
      rcases List.mem_cons.1 hx with rfl | hx
      · intro e; simp only [hasC, e, Nat.beq_refl] at hb; cases hb
      · exact noC_spec h x hx E0

/-- it makes, or turns, what has this name -/
def tch (k : Nat) (x : Ac) : Prop := x.nm = some k ∨ ∃ E0, x.c = some (k, E0)
def tchB (k : Nat) (x : Ac) : Bool := match x.nm with
  | some j => (match Nat.beq k j with
    | true => true
    | false => hasC k x)
  | none => hasC k x
theorem hasC_iff {k : Nat} {x : Ac} : hasC k x = true ↔ ∃ E0, x.c = some (k, E0) := by
  unfold hasC
  cases h : x.c with
  | none => simp
  | some p =>
    obtain ⟨j, E⟩ := p
    simp only [Option.some.injEq, Prod.mk.injEq]
    constructor
    · intro h; exact ⟨E, (Nat.eq_of_beq_eq_true h).symm, rfl⟩
    · rintro ⟨_, h, _⟩; subst h; exact Nat.beq_refl _
theorem tchB_iff {k : Nat} {x : Ac} : tchB k x = true ↔ tch k x := by
  unfold tchB tch
  cases h : x.nm with
  | none => simp [hasC_iff]
  | some j =>
    simp only [Option.some.injEq]
    split
    · rename_i hb; simp [(Nat.eq_of_beq_eq_true hb).symm]
    · rename_i hb
      have hne : j ≠ k := fun e => by subst e; rw [Nat.beq_refl] at hb; cases hb
      simp [hasC_iff, hne]
/-- the last one that makes, or turns it -/
def lastT (k : Nat) : List Ac → Option Ac
  | [] => none
  | x :: l => match tchB k x with
    | true => some x
    | false => lastT k l
theorem lastT_spec {k : Nat} {z : Ac} : ∀ {l : List Ac}, lastT k l = some z → ∃ a b, l = a ++ z :: b ∧ tch k z ∧ ∀ y ∈ a, ¬ tch k y
  | [], h => by simp [lastT] at h
  | x :: l, h => by
    simp only [lastT] at h
    split at h
    · rename_i hb; cases h; exact ⟨[], l, rfl, tchB_iff.1 hb, by simp⟩
    · rename_i hb
      obtain ⟨a, b, e, h1, h2⟩ := lastT_spec h
      refine ⟨x :: a, b, by rw [e]; rfl, h1, fun y hy => ?_⟩
      rcases List.mem_cons.1 hy with rfl | hy
      · intro h; rw [tchB_iff.2 h] at hb; cases hb
      · exact h2 y hy

def memN (x : Nat) : List Nat → Bool
  | [] => false
  | y :: l => match Nat.beq x y with
    | true => true
    | false => memN x l
theorem memN_iff {x : Nat} : ∀ {l : List Nat}, memN x l = true ↔ x ∈ l
  | [] => by simp [memN]
  | y :: l => by
    simp only [memN]
    split
    · rename_i h; simp [Nat.eq_of_beq_eq_true h]
    · rename_i h
      have hne : x ≠ y := fun e => by subst e; rw [Nat.beq_refl] at h; cases h
      rw [memN_iff]; simp [hne]
def findA (t : Tmp) : List Ac → Option Ac
  | [] => none
  | x :: l => match Nat.beq t x.d with
    | true => some x
    | false => findA t l
def findI (i : Nat) : List Ac → Option Ac
  | [] => none
  | x :: l => match Nat.beq i x.i with
    | true => some x
    | false => findI i l
theorem findA_mem {t : Tmp} {x : Ac} : ∀ {l : List Ac}, findA t l = some x → x ∈ l ∧ x.d = t
  | [], h => by simp [findA] at h
  | y :: l, h => by
    simp only [findA] at h
    split at h
    · rename_i hb; cases h; exact ⟨by simp, (Nat.eq_of_beq_eq_true hb).symm⟩
    · have := findA_mem h; exact ⟨by simp [this.1], this.2⟩
theorem findA_none {t : Tmp} : ∀ {l : List Ac}, findA t l = none → ∀ x ∈ l, x.d ≠ t
  | [], _, x, hx => by simp at hx
  | y :: l, h, x, hx => by
    simp only [findA] at h
    split at h
    · cases h
    · rename_i hb
      rcases List.mem_cons.1 hx with rfl | hx
      · intro e; rw [← e, Nat.beq_refl] at hb; cases hb
      · exact findA_none h x hx
theorem findI_mem {i : Nat} {x : Ac} : ∀ {l : List Ac}, findI i l = some x → x ∈ l ∧ x.i = i
  | [], h => by simp [findI] at h
  | y :: l, h => by
    simp only [findI] at h
    split at h
    · rename_i hb; cases h; exact ⟨by simp, (Nat.eq_of_beq_eq_true hb).symm⟩
    · have := findI_mem h; exact ⟨by simp [this.1], this.2⟩
/-- it waits for that one -/
def memE (i : Nat) : List Edge → Bool
  | [] => false
  | e :: l => match Nat.beq i e.on with
    | true => (match Region.binds .any e with
      | true => true
      | false => memE i l)
    | false => memE i l
theorem memE_spec {i : Nat} : ∀ {l : List Edge}, memE i l = true → ∃ e ∈ l, Region.binds .any e = true ∧ e.on = i
  | [], h => by simp [memE] at h
  | e :: l, h => by
    simp only [memE] at h
    split at h
    · rename_i hb
      split at h
      · rename_i hc; exact ⟨e, by simp, hc, (Nat.eq_of_beq_eq_true hb).symm⟩
      · obtain ⟨f, hf, h⟩ := memE_spec h; exact ⟨f, by simp [hf], h⟩
    · obtain ⟨f, hf, h⟩ := memE_spec h; exact ⟨f, by simp [hf], h⟩
/-- the slots that an operation looks at: of what it waits for, or from before -/
def selT (es : List Edge) (ds : List Nat) (acc : List Ac) (tm : List (Nat × V)) : List Tmp → Option (List (Nat × V))
  | [] => some []
  | t :: ts => match selT es ds acc tm ts with
    | none => none
    | some r => (match findA t acc with
      | some ⟨i, _, v, _, _, _, _, _, _⟩ => (match memE i es with
        | true => some ((t, v) :: r)
        | false => none)
      | none => (match memN t ds with
        | true => none
        | false => (match lookT t tm with
          | some v => some ((t, v) :: r)
          | none => some r)))
/-- the log that it may rely on -/
def visF (acc : List Ac) : List Edge → Option (List E)
  | [] => some []
  | e :: l => match visF acc l with
    | none => none
    | some r => (match Region.binds .any e with
      | false => some r
      | true => (match findI e.on acc with
        | none => some r
        | some ⟨_, _, _, en, vi, _, _, _, _⟩ => (match en, vi with
          | [], [] => some r
          | [x], [] => some (x :: r)
          | a, b => some (a ++ (b ++ r)))))
theorem selT_spec {es : List Edge} {ds : List Nat} {acc : List Ac} {tm : List (Nat × V)} : ∀ {ts : List Tmp} {r : List (Nat × V)}, selT es ds acc tm ts = some r →
    ∀ {t v}, lookT t r = some v → (∃ x ∈ acc, x.d = t ∧ x.v = v ∧ memE x.i es = true) ∨ (memN t ds = false ∧ lookT t tm = some v)
  | [], r, h, t, v, hl => by simp only [selT, Option.some.injEq] at h; subst h; simp [lookT] at hl
  | t0 :: ts, r, h, t, v, hl => by
    simp only [selT] at h
    split at h
    · cases h
    · rename_i r0 hr
      have ih : ∀ {t v}, lookT t r0 = some v → (∃ x ∈ acc, x.d = t ∧ x.v = v ∧ memE x.i es = true) ∨ (memN t ds = false ∧ lookT t tm = some v) := fun h => selT_spec (ts := ts) hr h
      split at h
      · rename_i i d v0 _ _ _ _ _ _ hx
        have hx' := findA_mem hx
        split at h
        · rename_i hm
          cases h
          simp only [lookT] at hl
          split at hl
          · rename_i hb
            have hb' := Nat.eq_of_beq_eq_true hb
            have hv : v0 = v := by simpa using hl
            exact .inl ⟨_, hx'.1, by rw [hb']; exact hx'.2, hv, hm⟩
          · exact ih hl
        · cases h
      · split at h
        · cases h
        · rename_i hm
          split at h
          · rename_i v0 hv
            cases h
            simp only [lookT] at hl
            split at hl
            · rename_i hb
              have hb' := Nat.eq_of_beq_eq_true hb
              have hv0 : v0 = v := by simpa using hl
              subst hb'; subst hv0
              exact .inr ⟨hm, hv⟩
            · exact ih hl
          · cases h; exact ih hl
theorem SimS.app {B : Nat} {g : G} {w : World} : ∀ {es : List E}, ∀ {st : List E}, (∀ e ∈ es, SimS B g w [e]) → SimS B g w st → SimS B g w (es ++ st)
  | [], _, _, h => h
  | e :: es, _, h1, h2 => SimS.cons (h1 e (by simp)) (SimS.app (fun e he => h1 e (by simp [he])) h2)
theorem visF_spec {acc : List Ac} : ∀ {es : List Edge} {r : List E}, visF acc es = some r → ∀ y ∈ r, ∃ x ∈ acc, memE x.i es = true ∧ (y ∈ x.e ∨ y ∈ x.vis)
  | [], r, h, y, hy => by simp only [visF, Option.some.injEq] at h; subst h; simp at hy
  | e :: l, r, h, y, hy => by
    simp only [visF] at h
    split at h
    · cases h
    · rename_i r0 hr
      have hup : (∃ x ∈ acc, memE x.i l = true ∧ (y ∈ x.e ∨ y ∈ x.vis)) → ∃ x ∈ acc, memE x.i (e :: l) = true ∧ (y ∈ x.e ∨ y ∈ x.vis) := fun ⟨x, hx, hm, k⟩ => by
        refine ⟨x, hx, ?_, k⟩
        simp only [memE]
        split
        · split
          · rfl
          · exact hm
        · exact hm
      have ih := fun hy => hup (visF_spec (es := l) hr y hy)
      split at h
      · cases h; exact ih hy
      · rename_i hb
        split at h
        · cases h; exact ih hy
        · rename_i i d v en vi nm cc _ _ hx
          have hx' := findI_mem hx
          have hm : memE i (e :: l) = true := by
            simp only [memE]
            have : i = e.on := hx'.2
            rw [this, Nat.beq_refl, hb]
          split at h
          · cases h; exact ih hy
          · rename_i z
            cases h
            rcases List.mem_cons.1 hy with rfl | hy
            · exact ⟨_, hx'.1, hm, .inl (by simp)⟩
            · exact ih hy
          · cases h
            rcases List.mem_append.1 hy with hy | hy
            · exact ⟨_, hx'.1, hm, .inl hy⟩
            · rcases List.mem_append.1 hy with hy | hy
              · exact ⟨_, hx'.1, hm, .inr hy⟩
              · exact ih hy
def tmpsL : List Operand → List Tmp
  | [] => []
  | .tmp t :: l => t :: tmpsL l
  | _ :: l => tmpsL l
def tmpsO (o : Oper) : List Tmp := tmpsL o.op.operands.toList
def dstI : Nat → List Oper → List Nat
  | _, [] => []
  | i, o :: l => match o.dst with
    | some d => d :: dstI (i + 1) l
    | none => (1000000 + i) :: dstI (i + 1) l
/-- the slots that it fills; a name beyond all slots for one that fills none -/
def dstL (l : List Oper) : List Nat := dstI 0 l
/-- the region's form: n operations, in whatever order; the others behind them, one by one -/
def drawB (l : List Oper) (n : Nat) : Bool :=
  decide (n ≤ l.length) && (decide (n = l.length) || (decide (n < l.length) && Region.sinkB .any l.toArray n && Region.chainB .any l.toArray n)) && Region.seqB .any l.toArray (l.length - n) n (headDone l.length n) &&
  (List.range n).all fun i => ((l[i]?).map fun o => o.after.toList.all fun e => !Region.binds .any e || decide (e.on < i)).getD false

section
variable {P : Program} {cx : Cx} {l : List Oper} {tm0 : List (Nat × V)} {st0 stO : List E} {ds : List Nat}

/-- what was said of a name, in the log -/
def EOk (stO : List E) (k : Nat) (E0 : E) : Prop := (∃ nw ver e sz lr, E0 = .r true nw k ver e sz lr ∧ rowAt k stO = some (true, nw, ver, e, sz, lr)) ∨ ∃ off vs, E0 = .c k off vs ∧ ∀ i v, vs[i]? = some v → cellAt k (off + i) stO = some v
structure Stp (P : Program) (cx : Cx) (l : List Oper) (tm0 : List (Nat × V)) (st0 stO : List E) (ds : List Nat) (nb0 : Nat) (B : List Ac) (x : Ac) (nb nb' : Nat) : Prop where
  o : ∃ o tmI, l[B.length]? = some o ∧ selT o.after.toList ds B tm0 (gT l o ++ tmpsO o) = some tmI ∧ visF B o.after.toList = some x.vis ∧ ((o.dst = some x.d ∧ x.d < cx.N) ∨ (o.dst = none ∧ x.v = .d .any)) ∧
    ((x.c = none ∧ OpI P cx l o tmI (x.vis ++ st0) x.nm x.v x.p) ∨ ∃ k E0 ent, x.c = some (k, E0) ∧ x.nm = none ∧ x.p = [ent] ∧ Wd l tmI o.guard ∧ OpC P cx o tmI (x.vis ++ st0) k E0 x.v ent ∧ ∀ j, x.r = some j → memE j o.after.toList = true)
  ep : x.e = x.p ∨ x.e = []
  c : (x.c = none ∧ ∀ k, x.nm ≠ some k → noR k x.p = true) ∨ ∃ k E0, x.c = some (k, E0) ∧ noR k st0 = true ∧ (∀ k', k' ≠ k → noR k' x.p = true) ∧ (∀ k', k' ≠ k → noR k' [E0] = true) ∧
    ((x.r = none ∧ (k < nb0 ∧ EOk stO k E0) ∧ noC k B = true) ∨ ∃ z, lastT k B = some z ∧ x.r = some z.i ∧ z.p = [E0] ∧ z.e = [])
  idx : x.i = B.length
  d : memN x.d ds = true ∧ findA x.d B = none
  nm : (x.nm = none ∧ nb' = nb) ∨ (x.nm = some nb ∧ nb' = nb + 1)
  e : x.p = [] ∨ ∃ e, x.p = [e]

inductive Good (P : Program) (cx : Cx) (l : List Oper) (tm0 : List (Nat × V)) (st0 stO : List E) (ds : List Nat) (nb0 : Nat) : List Ac → List (Nat × V) → List E → Nat → Prop
  | nil : Good P cx l tm0 st0 stO ds nb0 [] tm0 st0 nb0
  | cons {B : List Ac} {x : Ac} {tm : List (Nat × V)} {st : List E} {nb nb' : Nat} (h : Good P cx l tm0 st0 stO ds nb0 B tm st nb) (k : Stp P cx l tm0 st0 stO ds nb0 B x nb nb') : Good P cx l tm0 st0 stO ds nb0 (x :: B) ((x.d, x.v) :: tm) (x.e ++ st) nb'

structure GoodS (P : Program) (cx : Cx) (l : List Oper) (tm0 : List (Nat × V)) (st0 stO : List E) (ds : List Nat) (nb0 : Nat) (L : List Ac) (tm : List (Nat × V)) (st : List E) (nb : Nat) : Prop where
  up : nb0 ≤ nb
  stp : ∀ x ∈ L, ∃ B nb1 nb2, Stp P cx l tm0 st0 stO ds nb0 B x nb1 nb2 ∧ (∀ y ∈ B, y ∈ L ∧ y.i < x.i) ∧ B.length < L.length ∧ (∀ y ∈ L, y.i < x.i → y ∈ B) ∧ (∀ y ∈ B, ∀ k, tch k y → k < nb1) ∧ nb0 ≤ nb1 ∧ ∀ a z b, B = a ++ z :: b → ∀ y ∈ b, y.i < z.i
  nmb : ∀ x ∈ L, ∀ k, x.nm = some k → nb0 ≤ k ∧ k < nb
  tlt : ∀ x ∈ L, ∀ k, tch k x → k < nb
  srt : ∀ a z b, L = a ++ z :: b → ∀ y ∈ b, y.i < z.i
  idx : ∀ i, i < L.length → ∃ x ∈ L, x.i = i
  ilt : ∀ x ∈ L, x.i < L.length
  one : ∀ x ∈ L, ∀ y ∈ L, x.i = y.i → x = y
  dne : ∀ x ∈ L, ∀ y ∈ L, x.i ≠ y.i → x.d ≠ y.d
  nne : ∀ x ∈ L, ∀ y ∈ L, x.i ≠ y.i → ∀ k, x.nm = some k → y.nm ≠ some k
  dds : ∀ x ∈ L, memN x.d ds = true
  look : ∀ {t v}, lookT t tm = some v → (∃ x ∈ L, x.d = t ∧ x.v = v) ∨ ((∀ x ∈ L, x.d ≠ t) ∧ lookT t tm0 = some v)
  log : ∀ {g w}, SimS cx.B g w st0 → (∀ x ∈ L, SimS cx.B g w x.e) → SimS cx.B g w st

theorem Good.facts {nb0 : Nat} {L : List Ac} {tm : List (Nat × V)} {st : List E} {nb : Nat} (h : Good P cx l tm0 st0 stO ds nb0 L tm st nb) : GoodS P cx l tm0 st0 stO ds nb0 L tm st nb := by
  induction h with
  | nil => exact ⟨Nat.le_refl _, by simp, by simp, by simp, by simp, by simp, by simp, by simp, by simp, by simp, by simp, fun h => .inr ⟨by simp, h⟩, fun h _ => h⟩
  | @cons B x tm st nb nb' h k ih =>
    have hnb : nb ≤ nb' := by rcases k.nm with ⟨_, e⟩ | ⟨_, e⟩ <;> omega
    have hfa := findA_none k.d.2
    have htl : ∀ k', tch k' x → k' < nb' := fun k' ht => by
      rcases ht with h | ⟨E0, h⟩
      · rcases k.nm with ⟨e, _⟩ | ⟨e, e'⟩
        · rw [e] at h; cases h
        · rw [e] at h; cases h; omega
      · rcases k.c with ⟨e, _⟩ | ⟨k2, E2, e, _, _, _, q⟩
        · rw [e] at h; cases h
        · rw [e] at h; cases h
          rcases q with ⟨_, ⟨q, _⟩, _⟩ | ⟨z, q, _⟩
          · have := ih.up; omega
          · obtain ⟨a, b, e, q1, _⟩ := lastT_spec q
            have := ih.tlt z (by rw [e]; simp) _ q1; omega
    refine ⟨Nat.le_trans ih.up hnb, ?_, ?_, ?_, ?_, ?_, ?_, ?_, ?_, ?_, ?_, ?_, ?_⟩
    · intro y hy
      rcases List.mem_cons.1 hy with rfl | hy
      · refine ⟨B, nb, nb', k, fun z hz => ⟨by simp [hz], by rw [k.idx]; exact ih.ilt z hz⟩, by simp, fun z hz hl => ?_, ih.tlt, ih.up, ih.srt⟩
        rcases List.mem_cons.1 hz with rfl | hz
        · omega
        · exact hz
      · obtain ⟨B', n1, n2, h1, h2, h3, h4, h5, h6, h7⟩ := ih.stp y hy
        refine ⟨B', n1, n2, h1, fun z hz => ⟨by simp [(h2 z hz).1], (h2 z hz).2⟩, by simp; omega, fun z hz hl => ?_, h5, h6, h7⟩
        rcases List.mem_cons.1 hz with rfl | hz
        · have := ih.ilt y (by assumption); rw [k.idx] at hl; omega
        · exact h4 z hz hl
    · intro y hy i hi
      rcases List.mem_cons.1 hy with rfl | hy
      · rcases k.nm with ⟨e, _⟩ | ⟨e, e'⟩
        · rw [e] at hi; cases hi
        · rw [e] at hi; cases hi; have := ih.up; omega
      · have := ih.nmb y hy i hi; omega
    · intro y hy i hi
      rcases List.mem_cons.1 hy with rfl | hy
      · exact htl i hi
      · have := ih.tlt y hy i hi; omega
    · intro a z b e y hy
      cases a with
      | nil => simp only [List.nil_append, List.cons.injEq] at e; obtain ⟨rfl, rfl⟩ := e; rw [k.idx]; exact ih.ilt y hy
      | cons a0 a => simp only [List.cons_append, List.cons.injEq] at e; exact ih.srt a z b e.2 y hy
    · intro i hi
      by_cases e : i = B.length
      · exact ⟨x, by simp, k.idx.trans e.symm⟩
      · obtain ⟨y, hy, e⟩ := ih.idx i (by simp at hi; omega)
        exact ⟨y, by simp [hy], e⟩
    · intro y hy
      rcases List.mem_cons.1 hy with rfl | hy
      · rw [k.idx]; simp
      · have := ih.ilt y hy; simp; omega
    · intro y hy z hz e
      rcases List.mem_cons.1 hy with rfl | hy' <;> rcases List.mem_cons.1 hz with rfl | hz'
      · rfl
      · have := ih.ilt z hz'; rw [← e, k.idx] at this; omega
      · have := ih.ilt y hy'; rw [e, k.idx] at this; omega
      · exact ih.one y hy' z hz' e
    · intro y hy z hz e
      rcases List.mem_cons.1 hy with rfl | hy' <;> rcases List.mem_cons.1 hz with rfl | hz'
      · exact absurd rfl e
      · exact fun e => hfa z hz' e.symm
      · exact hfa y hy'
      · exact ih.dne y hy' z hz' e
    · intro y hy z hz e i h1 h2
      have hx : ∀ y ∈ B, ∀ i, x.nm = some i → y.nm = some i → False := fun y hy i h1 h2 => by
        have := ih.nmb y hy i h2
        rcases k.nm with ⟨e, _⟩ | ⟨e, e'⟩
        · rw [e] at h1; cases h1
        · rw [e] at h1; cases h1; omega
      rcases List.mem_cons.1 hy with rfl | hy' <;> rcases List.mem_cons.1 hz with rfl | hz'
      · exact absurd rfl e
      · exact hx z hz' i h1 h2
      · exact hx y hy' i h2 h1
      · exact ih.nne y hy' z hz' e i h1 h2
    · intro y hy
      rcases List.mem_cons.1 hy with rfl | hy
      · exact k.d.1
      · exact ih.dds y hy
    · intro t v hv
      simp only [lookT] at hv
      split at hv
      · rename_i hb; cases hv; exact .inl ⟨x, by simp, (Nat.eq_of_beq_eq_true hb).symm, rfl⟩
      · rename_i hb
        rcases ih.look hv with ⟨y, hy, e⟩ | ⟨h1, h2⟩
        · exact .inl ⟨y, by simp [hy], e⟩
        · refine .inr ⟨fun y hy => ?_, h2⟩
          rcases List.mem_cons.1 hy with rfl | hy
          · intro e; rw [e, Nat.beq_refl] at hb; cases hb
          · exact h1 y hy
    · intro g w h0 h1
      exact SimS.appS (h1 x (by simp)) (ih.log h0 fun y hy => h1 y (by simp [hy])) (k.ep.elim (fun e => by rw [e]; exact k.e) fun e => .inl e)
/-- what is made, or turned, under one name: one behind the other; only the last one's word stands -/
theorem GoodS.chain {nb0 nb : Nat} {L : List Ac} {tm : List (Nat × V)} {st : List E} (hG : GoodS P cx l tm0 st0 stO ds nb0 L tm st nb) {listed : Array Bool} (hcl : ∀ j oj, l[j]? = some oj → listed.getD j false = true → ∀ e ∈ oj.after, Region.binds .any e = true → listed.getD e.on false = true) :
    ∀ n, ∀ y ∈ L, y.i = n → ∀ x ∈ L, ∀ k, tch k x → tch k y → x.i < y.i → (listed.getD y.i false = true → listed.getD x.i false = true) ∧ x.e = [] ∧ y.nm = none ∧ y.r ≠ none := by
  intro n
  induction n using Nat.strongRecOn with
  | _ n ih =>
    intro y hy hyn x hx k htx hty hlt
    obtain ⟨B, nb1, nb2, hS, hB, _, hB2, hB3, hB4, hB5⟩ := hG.stp y hy
    have hxB := hB2 x hx hlt
    have hkl := hB3 x hxB k htx
    obtain ⟨o, tmI, ho, _, _, _, hop⟩ := hS.o
    rcases hty with h | ⟨E0, h⟩
    · rcases hS.nm with ⟨e, _⟩ | ⟨e, _⟩
      · rw [e] at h; cases h
      · rw [e] at h; cases h; omega
    · rcases hop with ⟨e, _⟩ | ⟨k', E', ent, e, e1, e2, e3, e4, e5⟩
      · rw [e] at h; cases h
      · rw [e] at h; cases h
        rcases hS.c with ⟨q, _⟩ | ⟨k', E', q, _, _, _, q5⟩
        · rw [e] at q; cases q
        · rw [e] at q; cases q
          rcases q5 with ⟨q6, ⟨q7, _⟩, q8⟩ | ⟨z, q6, q7, q8, q9⟩
          · exfalso
            rcases htx with h | ⟨E1, h⟩
            · have := (hG.nmb x hx _ h).1; omega
            · exact noC_spec q8 x hxB E1 h
          · obtain ⟨a, b, hab, hz, hna⟩ := lastT_spec q6
            have hzB : z ∈ B := by rw [hab]; simp
            have hzl : listed.getD y.i false = true → listed.getD z.i false = true := fun hl => by
              obtain ⟨ed, he, hb, hon⟩ := memE_spec (e5 _ q7)
              rw [hS.idx] at hl
              have := hcl _ _ ho hl ed (by simpa using he) hb
              rwa [hon] at this
            refine ⟨fun hl => ?_, ?_, e1, by rw [q7]; simp⟩
            · by_cases hxz : x = z
              · rw [hxz]; exact hzl hl
              · have hxb : x ∈ b := by
                  rw [hab] at hxB
                  rcases List.mem_append.1 hxB with h | h
                  · exact absurd htx (hna x h)
                  · rcases List.mem_cons.1 h with h | h
                    · exact absurd h hxz
                    · exact h
                exact (ih z.i (by have := (hB z hzB).2; omega) z (hB z hzB).1 rfl x hx k htx hz (hB5 a z b hab x hxb)).1 (hzl hl)
            · by_cases hxz : x = z
              · rw [hxz]; exact q9
              · have hxb : x ∈ b := by
                  rw [hab] at hxB
                  rcases List.mem_append.1 hxB with h | h
                  · exact absurd htx (hna x h)
                  · rcases List.mem_cons.1 h with h | h
                    · exact absurd h hxz
                    · exact h
                exact (ih z.i (by have := (hB z hzB).2; omega) z (hB z hzB).1 rfl x hx k htx hz (hB5 a z b hab x hxb)).2.1
/-- those of another name say nothing of it -/
theorem GoodS.noE {nb0 nb : Nat} {L : List Ac} {tm : List (Nat × V)} {st : List E} (hG : GoodS P cx l tm0 st0 stO ds nb0 L tm st nb) {x : Ac} (hx : x ∈ L) {k : Nat} (h : ¬ tch k x) : noR k x.p = true ∧ noR k x.e = true := by
  obtain ⟨B, nb1, nb2, hS, _⟩ := hG.stp x hx
  have hp : noR k x.p = true := by
    rcases hS.c with ⟨_, q⟩ | ⟨k', E', q, _, q2, _, _⟩
    · exact q k fun e => h (.inl e)
    · exact q2 k fun e => h (.inr ⟨E', by rw [e]; exact q⟩)
  refine ⟨hp, ?_⟩
  rcases hS.ep with e | e
  · rw [e]; exact hp
  · rw [e]; rfl

/-- so many are listed, and this holds -/
structure DInv (cx : Cx) (L : List Ac) (tm0 : List (Nat × V)) (st0 : List E) (nbF : Nat) (g0 : G) (w0 : World) (listed : Array Bool) (a : Act) (w : World) (g : G) : Prop where
  ext : Ext cx.m g0 w0 g w
  size : a.tmps.size = cx.N
  keep : ∀ {t v}, (∀ x ∈ L, x.d ≠ t) → lookT t tm0 = some v → vrep cx.B g w v (a.tmps.getD t undef)
  done : ∀ x ∈ L, listed.getD x.i false = true → vrep cx.B g w x.v (a.tmps.getD x.d undef) ∧ (∀ e ∈ x.e, SimS cx.B g w [e]) ∧ ∀ e ∈ x.vis, SimS cx.B g w [e]
  st : SimS cx.B g w st0
  inv : Inv cx.B nbF g w
  marks : Marks cx g w a.defers
  free : ∀ x ∈ L, listed.getD x.i true = false → ∀ k, x.nm = some k → Free g k
  con : ∀ x ∈ L, listed.getD x.i true = false → ∀ k E0, x.c = some (k, E0) → (∀ j, x.r = some j → listed.getD j false = true) → SimS cx.B g w [E0]
  cl : ∀ x ∈ L, listed.getD x.i true = false → ∀ k E0, x.c = some (k, E0) → ∀ y ∈ L, listed.getD y.i false = true → ∀ e ∈ y.vis, noR k [e] = true

theorem getD_put {a : Act} {d t : Tmp} {u : Value} (h : d ≠ t) : (a.put (some d) u).tmps.getD t undef = a.tmps.getD t undef := by
  simp only [Act.put, Array.getD_eq_getD_getElem?]
  rw [Array.getElem?_setIfInBounds_ne h]
theorem getD_puts {a : Act} {d : Tmp} {u : Value} (h : d < a.tmps.size) : (a.put (some d) u).tmps.getD d undef = u := by
  simp only [Act.put, Array.getD_eq_getD_getElem?]
  rw [Array.getElem?_setIfInBounds_self_of_lt h]; rfl
theorem wpAnyIn_of_seq {F : Fence} {n : Nat} {ops : Array Oper} {Q' : Exit → Act → World → Prop} : ∀ (l : List Oper) (k : Nat) (listed : Array Bool) (a : Act) (w : World), (∀ j, l[j]? = ops[k + j]?) →
    Region.seqB .any ops l.length k listed = true → wplIn F n P ops Q' l a w → wpAnyIn F n P .any ops Q' l.length listed a w
  | [], _, _, _, _, _, hB, h => ⟨by simpa [Region.seqB] using hB, h⟩
  | o :: l, k, listed, a, w, hl, hB, h => by
    have h0 : ops[k]? = some o := by simpa using (hl 0).symm
    simp only [List.length_cons, Region.seqB, Bool.and_eq_true, decide_eq_true_eq] at hB
    refine ⟨fun h1 => (by rw [hB.1] at h1; cases h1), fun i hi => ?_⟩
    rw [hB.1] at hi
    have hik : i = k := by simpa using hi
    subst hik
    have hw : wpOpIn F n P ops Q' i (wplIn F n P ops Q' l) a w := by unfold wpOpIn; simp only [h0]; exact h
    exact wpOpIn_mono (fun a' w' h' => wpAnyIn_of_seq l (i + 1) _ a' w' (fun j => by have := hl (j + 1); simpa [Nat.add_assoc, Nat.add_comm 1 j] using this) hB.2 h') hw

theorem getD_flip {listed : Array Bool} {i : Nat} (hi : i < listed.size) : listed.getD i false = listed.getD i true := by simp [hi]
/-- one of those that are ready -/
theorem DInv.step {nb0 nbF n m : Nat} {L : List Ac} {tm : List (Nat × V)} {st : List E} {g0 : G} {w0 : World} {listed : Array Bool} {a : Act} {w : World} {g : G} {Q : Exit → Act → World → Prop}
    (hG : GoodS P cx l tm0 st0 stO ds nb0 L tm st nbF) (hL : L.length = n) (hi : HeadInv .any l.toArray n listed) (h : DInv cx L tm0 st0 nbF g0 w0 listed a w g) {i : Nat} (hr : i ∈ Region.ready .any l.toArray listed) (hin : i < n) {K : Act → World → Prop}
    (hK : ∀ a' w' g', DInv cx L tm0 st0 nbF g0 w0 (listed.setIfInBounds i true) a' w' g' → K a' w') : wpOpIn (FW cx.rd) m P l.toArray Q i K a w := by
  obtain ⟨x, hx, hxi⟩ := hG.idx i (by omega)
  obtain ⟨B, nb1, nb2, hS, hB, _⟩ := hG.stp x hx
  obtain ⟨o, tmI, ho, hsel, hvis, hod, hop⟩ := hS.o
  have hBi : B.length = i := hS.idx.symm.trans hxi
  rw [hBi] at ho
  obtain ⟨hun, o', ho', hall⟩ := mem_ready.1 hr
  have hoo : o' = o := by rw [List.getElem?_toArray, ho] at ho'; exact (Option.some.inj ho').symm
  subst hoo
  have hlL : ∀ z ∈ L, z.i < l.length := fun z hz => by
    obtain ⟨B', _, _, k, _⟩ := hG.stp z hz
    obtain ⟨o2, _, k2, _⟩ := k.o
    rw [k.idx]; exact (List.getElem?_eq_some_iff.1 k2).1
  have hsz : ∀ y ∈ L, y.i < listed.size := fun y hy => by
    rw [hi.size]; simpa using hlL y hy
  have hdir0 : ∀ j, memE j o'.after.toList = true → listed.getD j false = true := fun j hm => by
    obtain ⟨e, he, hb, hon⟩ := memE_spec hm
    have := hall e (by simpa using he) hb
    rwa [hon] at this
  have hdir : ∀ y ∈ L, memE y.i o'.after.toList = true → listed.getD y.i false = true := fun y _ hm => hdir0 _ hm
  have hcl0 : ∀ j oj, l[j]? = some oj → listed.getD j false = true → ∀ e ∈ oj.after, Region.binds .any e = true → listed.getD e.on false = true := fun j oj hj => hi.closed j oj (by rw [List.getElem?_toArray]; exact hj)
  have hcl1 : ∀ j oj, l[j]? = some oj → (listed.setIfInBounds i true).getD j false = true → ∀ e ∈ oj.after, Region.binds .any e = true → (listed.setIfInBounds i true).getD e.on false = true := fun j oj hj => (hi.set hr hin).closed j oj (by rw [List.getElem?_toArray]; exact hj)
  have hfree : ∀ k, x.nm = some k → k < nbF ∧ Free g k := fun k hk => ⟨(hG.nmb x hx k hk).2, h.free x hx (by rw [hxi]; exact hun) k hk⟩
  have hsim : Sim cx g a w ⟨tmI, x.vis ++ st0, nbF⟩ := by
    refine ⟨h.size, fun {t v} ht => ?_, SimS.app (fun e he => ?_) h.st, h.inv, h.marks⟩
    · rcases selT_spec hsel ht with ⟨y, hy, e1, e2, hm⟩ | ⟨hd, ht⟩
      · rw [← e1, ← e2]; exact (h.done y (hB y hy).1 (hdir y (hB y hy).1 hm)).1
      · exact h.keep (fun y hy e => by have := hG.dds y hy; rw [e, hd] at this; cases this) ht
    · obtain ⟨y, hy, hm, k⟩ := visF_spec hvis e he
      have hdn := h.done y (hB y hy).1 (hdir y (hB y hy).1 hm)
      rcases k with k | k
      · exact hdn.2.1 e k
      · exact hdn.2.2 e k
  unfold wpOpIn
  simp only [List.getElem?_toArray, ho]
  have hset : ∀ {y : Ac}, y.i ≠ x.i → ∀ b, (listed.setIfInBounds i true).getD y.i b = listed.getD y.i b := fun {y} e b => getD_set_ne b (by rw [← hxi]; exact fun e' => e e'.symm)
  have hself : ∀ {y : Ac}, y ∈ L → y.i = x.i → ∀ b, (listed.setIfInBounds i true).getD y.i b = true := fun {y} hy e b => by
    rw [e, hxi]
    have : i < listed.size := by rw [← hxi]; exact hsz x hx
    simp [this]
  -- those that are listed say nothing of a row that still waits for one
  have hzE : ∀ y ∈ L, listed.getD y.i true = false → ∀ k E0, y.c = some (k, E0) → ∀ z ∈ L, listed.getD z.i false = true → noR k z.e = true := fun y hy hyl k E0 hc z hz hzl => by
    by_cases ht : tch k z
    · rcases Nat.lt_trichotomy z.i y.i with hlt | heq | hgt
      · rw [(hG.chain hcl0 _ y hy rfl z hz k ht (.inr ⟨E0, hc⟩) hlt).2.1]; rfl
      · have := hG.one z hz y hy heq; subst this
        rw [getD_flip (hsz z hz), hyl] at hzl; cases hzl
      · have := (hG.chain hcl0 _ z hz rfl y hy k (.inr ⟨E0, hc⟩) ht hgt).1 hzl
        rw [getD_flip (hsz y hy), hyl] at this; cases this
    · exact (hG.noE hz ht).2
  have hvisn : ∀ {k : Nat}, (∀ z ∈ L, listed.getD z.i false = true → noR k z.e = true) → (∀ z ∈ L, listed.getD z.i false = true → ∀ e ∈ z.vis, noR k [e] = true) → ∀ e ∈ x.vis, noR k [e] = true := fun {k} h1 h2 e he => by
    obtain ⟨z, hz, hm, q⟩ := visF_spec hvis e he
    have hd := hdir z (hB z hz).1 hm
    rcases q with q | q
    · exact noR_mem (h1 z (hB z hz).1 hd) e q
    · exact h2 z (hB z hz).1 hd e q
  have hcl : ∀ y ∈ L, (listed.setIfInBounds i true).getD y.i true = false → ∀ k E0, y.c = some (k, E0) → ∀ z ∈ L, (listed.setIfInBounds i true).getD z.i false = true → ∀ e ∈ z.vis, noR k [e] = true := fun y hy hl k E0 hc z hz hzl => by
    have hyx : y.i ≠ x.i := fun e => by rw [hself hy e] at hl; cases hl
    rw [hset hyx] at hl
    by_cases e : z.i = x.i
    · have := hG.one z hz x hx e
      subst this
      exact hvisn (fun z' hz' hl' => hzE y hy hl k E0 hc z' hz' hl') fun z' hz' hl' => h.cl y hy hl k E0 hc z' hz' hl'
    · rw [hset e] at hzl
      exact h.cl y hy hl k E0 hc z hz hzl
  -- who makes what one waits for
  have hprod : ∀ y ∈ L, ∀ k E1, y.c = some (k, E1) → ∀ j, y.r = some j → ∃ z ∈ L, z.i = j ∧ z.p = [E1] ∧ tch k z ∧ z.i < y.i ∧ ∀ u ∈ L, u.i < y.i → tch k u → u.i ≤ z.i := fun y hy k E1 hc j hj => by
    obtain ⟨B', m1, m2, kS, kB, _, kB2, _, _, kB5⟩ := hG.stp y hy
    rcases kS.c with ⟨q, _⟩ | ⟨k', E', q, _, _, _, q5⟩
    · rw [hc] at q; cases q
    · rw [hc] at q; cases q
      rcases q5 with ⟨q6, _⟩ | ⟨z, q6, q7, q8, q9⟩
      · rw [hj] at q6; cases q6
      · rw [hj] at q7; cases q7
        obtain ⟨a1, b1, hab, hzt, hna⟩ := lastT_spec q6
        have hzB : z ∈ B' := by rw [hab]; simp
        refine ⟨z, (kB z hzB).1, rfl, q8, hzt, (kB z hzB).2, fun u hu hlt hut => ?_⟩
        have huB := kB2 u hu hlt
        rw [hab] at huB
        rcases List.mem_append.1 huB with h | h
        · exact absurd hut (hna u h)
        · rcases List.mem_cons.1 h with h | h
          · subst h; exact Nat.le_refl _
          · exact Nat.le_of_lt (kB5 a1 z b1 hab u h)
  rcases hop with ⟨hxc, hop⟩ | ⟨k, E0, ent, hxc, hnm, hxp, hw, hop, hxr⟩
  · refine hop m nbF g a w K Q hfree hsim fun u g' w' hN hSe hI hv => ?_
    have hfr := fun i (hi : x.nm = some i) => (hfree i hi).2
    have hput : ∀ {t : Nat}, x.d ≠ t → (a.put o'.dst u).tmps.getD t undef = a.tmps.getD t undef := fun {t} ht => by
      rcases hod with ⟨hod, _⟩ | ⟨hod, _⟩
      · rw [hod]; exact getD_put ht
      · rw [hod]; rfl
    have hslot : vrep cx.B g' w' x.v ((a.put o'.dst u).tmps.getD x.d undef) := by
      rcases hod with ⟨hod, hdN⟩ | ⟨_, hod⟩
      · rw [hod, getD_puts (by rw [h.size]; exact hdN)]; exact hv
      · rw [hod]; simp only [vrep, drep]
    have hpd : (a.put o'.dst u).defers = a.defers := by cases o'.dst <;> rfl
    have hps : (a.put o'.dst u).tmps.size = a.tmps.size := by cases o'.dst <;> simp [Act.put]
    refine hK _ _ g' ⟨h.ext.trans hN.evo, by rw [hps, h.size], fun {t v} ht hl => ?_, fun y hy hl => ?_, h.st.newO hN h.inv hfr, hI, by rw [hpd]; exact h.marks.evo hN.evo, fun y hy hl k hk => ?_, fun y hy hl k E1 hc hcond => ?_, hcl⟩
    · rw [hput (ht x hx)]; exact hN.evo.vrep (h.keep ht hl)
    · by_cases e : y.i = x.i
      · have := hG.one y hy x hx e
        subst this
        refine ⟨hslot, fun e he => ?_, fun e he => ?_⟩
        · rcases hS.ep with h0 | h0
          · rw [h0] at he
            rcases hS.e with h0 | ⟨e1, h1⟩
            · rw [h0] at he; simp at he
            · rw [h1] at he hSe; simp at he; subst he; exact hSe
          · rw [h0] at he; simp at he
        · obtain ⟨z, hz, hm, k⟩ := visF_spec hvis e he
          have hdn := h.done z (hB z hz).1 (hdir z (hB z hz).1 hm)
          rcases k with k | k
          · exact (hdn.2.1 e k).newO hN h.inv hfr
          · exact (hdn.2.2 e k).newO hN h.inv hfr
      · rw [hset e] at hl
        obtain ⟨k1, k2, k3⟩ := h.done y hy hl
        exact ⟨by rw [hput (hG.dne x hx y hy fun e' => e e'.symm)]; exact hN.evo.vrep k1, fun e he => (k2 e he).newO hN h.inv hfr, fun e he => (k3 e he).newO hN h.inv hfr⟩
    · by_cases e : y.i = x.i
      · rw [hself hy e] at hl; cases hl
      · rw [hset e] at hl
        have hf := h.free y hy hl k hk
        have hs := hN.same k fun e' => hG.nne x hx y hy (fun e' => e e'.symm) k e'.symm hk
        exact ⟨by rw [hs.1]; exact hf.1, by rw [hs.2.1]; exact hf.2.1, fun i => by rw [hs.2.2]; exact hf.2.2 i⟩
    · by_cases e : y.i = x.i
      · rw [hself hy e] at hl; cases hl
      · rw [hset e] at hl
        by_cases hj : ∃ j, y.r = some j ∧ j = x.i
        · obtain ⟨j, hj, hjx⟩ := hj
          obtain ⟨z, hz, hzi, hzp, _⟩ := hprod y hy k E1 hc j hj
          have := hG.one z hz x hx (hzi.trans hjx)
          subst this
          rw [hzp] at hSe; exact hSe
        · refine (h.con y hy hl k E1 hc fun j hj' => ?_).newO hN h.inv hfr
          obtain ⟨z, hz, hzi, _⟩ := hprod y hy k E1 hc j hj'
          have h1 := hcond j hj'
          rw [← hzi] at h1 ⊢
          rwa [hset (fun e2 => hj ⟨j, hj', hzi.symm.trans e2⟩)] at h1
  · have hxl : listed.getD x.i true = false := by rw [hxi]; exact hun
    have hx0 : SimS cx.B g w [E0] := h.con x hx hxl k E0 hxc fun j hj => hdir0 j (hxr j hj)
    have hst0 : noR k st0 = true := by
      rcases hS.c with ⟨q, _⟩ | ⟨k', E', q, q2, _⟩
      · rw [hxc] at q; cases q
      · rw [hxc] at q; cases q; exact q2
    have hxt : tch k x := .inr ⟨E0, hxc⟩
    have hxe : ∀ k', tch k' x → k' = k := fun k' ht => by
      rcases ht with h | ⟨_, h⟩
      · rw [hnm] at h; cases h
      · rw [hxc] at h; cases h; rfl
    -- one ahead of it is listed
    have hahead : ∀ y ∈ L, tch k y → y.i < x.i → listed.getD y.i false = true := fun y hy ht hlt => by
      have h1 := (hG.chain hcl1 _ x hx rfl y hy k ht hxt hlt).1 (hself hx rfl _)
      rwa [hset (by omega)] at h1
    rw [if_pos (Wd.wanted (s := ⟨tmI, x.vis ++ st0, nbF⟩) hsim hw)]
    refine hop m nbF g a w K Q ⟨hsim.size, hsim.tm, SimS.cons hx0 hsim.st, hsim.inv, hsim.defers⟩ hx0 fun u g' w' hE hsame hpres hent hI hv => ?_
    have hput : ∀ {t : Nat}, x.d ≠ t → (a.put o'.dst u).tmps.getD t undef = a.tmps.getD t undef := fun {t} ht => by
      rcases hod with ⟨hod, _⟩ | ⟨hod, _⟩
      · rw [hod]; exact getD_put ht
      · rw [hod]; rfl
    have hslot : vrep cx.B g' w' x.v ((a.put o'.dst u).tmps.getD x.d undef) := by
      rcases hod with ⟨hod, hdN⟩ | ⟨_, hod⟩
      · rw [hod, getD_puts (by rw [h.size]; exact hdN)]; exact hv
      · rw [hod]; simp only [vrep, drep]
    have hpd : (a.put o'.dst u).defers = a.defers := by cases o'.dst <;> rfl
    have hps : (a.put o'.dst u).tmps.size = a.tmps.size := by cases o'.dst <;> simp [Act.put]
    have hoth := fun z hz hl => hzE x hx hxl k E0 hxc z hz hl
    have hvn := hvisn (k := k) hoth fun z hz hl => h.cl x hx hxl k E0 hxc z hz hl
    refine hK _ _ g' ⟨h.ext.trans hE, by rw [hps, h.size], fun {t v} ht hl => ?_, fun y hy hl => ?_, hpres _ hst0 h.st, hI, by rw [hpd]; exact h.marks.evo hE, fun y hy hl j hj => ?_, fun y hy hl k' E1 hc hcond => ?_, hcl⟩
    · rw [hput (ht x hx)]; exact hE.vrep (h.keep ht hl)
    · by_cases e : y.i = x.i
      · have := hG.one y hy x hx e
        subst this
        refine ⟨hslot, fun e he => ?_, fun e he => ?_⟩
        · rcases hS.ep with h0 | h0
          · rw [h0, hxp] at he; simp at he; subst he; exact hent
          · rw [h0] at he; simp at he
        · refine hpres _ (hvn e he) ?_
          obtain ⟨z, hz, hm, q⟩ := visF_spec hvis e he
          have hdn := h.done z (hB z hz).1 (hdir z (hB z hz).1 hm)
          rcases q with q | q
          · exact hdn.2.1 e q
          · exact hdn.2.2 e q
      · rw [hset e] at hl
        obtain ⟨k1, k2, k3⟩ := h.done y hy hl
        exact ⟨by rw [hput (hG.dne x hx y hy fun e' => e e'.symm)]; exact hE.vrep k1, fun e' he => hpres _ (noR_mem (hoth y hy hl) e' he) (k2 e' he), fun e' he => hpres _ (h.cl x hx hxl k E0 hxc y hy hl e' he) (k3 e' he)⟩
    · by_cases e : y.i = x.i
      · rw [hself hy e] at hl; cases hl
      · rw [hset e] at hl
        have hf := h.free y hy hl j hj
        have hjk : j ≠ k := fun e2 => by
          subst e2
          rcases Nat.lt_or_ge y.i x.i with hlt | hge
          · have := hahead y hy (.inl hj) hlt
            rw [getD_flip (hsz y hy), hl] at this; cases this
          · have := (hG.chain hcl0 _ y hy rfl x hx j hxt (.inl hj) (by omega)).2.2.1
            rw [hj] at this; cases this
        have hs := hsame j hjk
        exact ⟨by rw [hs.1]; exact hf.1, by rw [hs.2.1]; exact hf.2.1, fun i => by rw [hs.2.2]; exact hf.2.2 i⟩
    · by_cases e : y.i = x.i
      · rw [hself hy e] at hl; cases hl
      · rw [hset e] at hl
        have hE1 : ∀ k'', k'' ≠ k' → noR k'' [E1] = true := by
          obtain ⟨B', _, _, kS, _⟩ := hG.stp y hy
          rcases kS.c with ⟨q, _⟩ | ⟨k2, E', q, _, _, q4, _⟩
          · rw [hc] at q; cases q
          · rw [hc] at q; cases q; exact q4
        by_cases hkk : k' = k
        · subst hkk
          rcases Nat.lt_or_ge y.i x.i with hlt | hge
          · have := hahead y hy (.inr ⟨E1, hc⟩) hlt
            rw [getD_flip (hsz y hy), hl] at this; cases this
          · obtain ⟨j, hj⟩ := Option.ne_none_iff_exists'.1 (hG.chain hcl0 _ y hy rfl x hx k' hxt (.inr ⟨E1, hc⟩) (by omega)).2.2.2
            obtain ⟨z, hz, hzi, hzp, hzt, hzy, hzm⟩ := hprod y hy k' E1 hc j hj
            by_cases hzx : z = x
            · subst hzx
              rw [hxp] at hzp; cases hzp; exact hent
            · have hlt : x.i < z.i := by
                have h1 := hzm x hx (by omega) hxt
                have h2 : x.i ≠ z.i := fun e => hzx (hG.one z hz x hx e.symm)
                omega
              have h1 := hcond j hj
              rw [← hzi, hset (by omega)] at h1
              have := (hG.chain hcl0 _ z hz rfl x hx k' hxt hzt hlt).1 h1
              rw [getD_flip (hsz x hx), hxl] at this; cases this
        · refine hpres _ (hE1 k fun e2 => hkk e2.symm) (h.con y hy hl k' E1 hc fun j hj => ?_)
          obtain ⟨z, hz, hzi, _, hzt, _⟩ := hprod y hy k' E1 hc j hj
          have h1 := hcond j hj
          rw [← hzi] at h1 ⊢
          rwa [hset (fun e2 => hkk (hxe k' (by rw [← hG.one z hz x hx e2]; exact hzt)))] at h1
theorem DInv.all {nb0 nbF n m : Nat} {L : List Ac} {tm : List (Nat × V)} {st : List E} {g0 : G} {w0 : World} {Q : Exit → Act → World → Prop}
    (hG : GoodS P cx l tm0 st0 stO ds nb0 L tm st nbF) (hL : L.length = n) (hn : n ≤ l.length) (hs : n = l.length ∨ (n < l.length ∧ Region.sinkB .any l.toArray n = true ∧ Region.chainB .any l.toArray n = true))
    (hseq : Region.seqB .any l.toArray (l.length - n) n (headDone l.length n) = true) (hlt : ∀ i o, i < n → l[i]? = some o → ∀ e ∈ o.after, Region.binds .any e = true → e.on < i)
    (hT : ∀ g a w, Ext cx.m g0 w0 g w → Sim cx g a w ⟨tm, st, nbF⟩ → wplIn (FW cx.rd) m P l.toArray Q (l.drop n) a w) :
    ∀ (f : Nat) (listed : Array Bool) (a : Act) (w : World) (g : G), HeadInv .any l.toArray n listed → un listed n = f → DInv cx L tm0 st0 nbF g0 w0 listed a w g → wpAnyIn (FW cx.rd) m P .any l.toArray Q (f + (l.length - n)) listed a w := by
  intro f
  induction f with
  | zero =>
    intro listed a w g inv hu h
    rw [Nat.zero_add]
    have hls := listed_eq inv hu
    have hd : ∀ x ∈ L, listed.getD x.i false = true := fun x hx => by
      have h1 := un_zero hu x.i (by have := hG.ilt x hx; omega)
      have h2 : x.i < listed.size := by have := hG.ilt x hx; rw [inv.size]; simp; omega
      rw [getD_flip h2]; exact h1
    have hsim : Sim cx g a w ⟨tm, st, nbF⟩ := by
      refine ⟨h.size, fun {t v} ht => ?_, hG.log h.st fun x hx => ?_, h.inv, h.marks⟩
      · rcases hG.look ht with ⟨x, hx, e1, e2⟩ | ⟨h1, h2⟩
        · rw [← e1, ← e2]; exact (h.done x hx (hd x hx)).1
        · exact h.keep h1 h2
      · have := SimS.app (h.done x hx (hd x hx)).2.1 SimS.nil
        simpa using this
    have := wpAnyIn_of_seq (F := FW cx.rd) (n := m) (P := P) (Q' := Q) (l.drop n) n listed a w (fun j => by simp [List.getElem?_drop]) (by rw [hls]; simpa using hseq) (hT g a w h.ext hsim)
    simpa using this
  | succ f ih =>
    intro listed a w g inv hu h
    have hne : Region.ready .any l.toArray listed ≠ [] := by
      have : ∀ d i, d = i → i < n → listed.getD i true = false → ∃ j, j ∈ Region.ready .any l.toArray listed := by
        intro d
        induction d using Nat.strongRecOn with
        | _ d ihd =>
          intro i hdi hi hun
          have ho : l[i]? = some (l[i]'(by omega)) := List.getElem?_eq_getElem (by omega)
          by_cases hall : ∀ e ∈ (l[i]'(by omega)).after, Region.binds .any e = true → listed.getD e.on false = true
          · exact ⟨i, mem_ready.2 ⟨hun, _, by simp only [List.getElem?_toArray]; exact ho, hall⟩⟩
          · simp only [Classical.not_forall] at hall
            obtain ⟨e, he, hb, hu⟩ := hall
            have hlt' := hlt i _ hi ho e he hb
            exact ihd e.on (by omega) e.on rfl (by omega) (by
              have h2 : e.on < listed.size := by rw [inv.size]; simp; omega
              rw [← getD_flip h2]; simpa using hu)
      obtain ⟨i0, hi0, hun⟩ := un_pos (l := listed) (k := n) (by omega)
      obtain ⟨j, hj⟩ := this i0 i0 rfl hi0 hun
      intro e; rw [e] at hj; cases hj
    rw [show f + 1 + (l.length - n) = (f + (l.length - n)) + 1 from by omega]
    refine ⟨fun h0 => absurd h0 hne, fun i hi => ?_⟩
    have hin : i < n := by
      rcases hs with rfl | ⟨hn', hs, hc⟩
      · obtain ⟨_, o, ho, _⟩ := mem_ready.1 hi
        simpa using (Array.getElem?_eq_some_iff.1 ho).1
      · rcases Nat.lt_or_ge i n with h' | h'
        · exact h'
        · obtain ⟨i0, hi0, hun⟩ := un_pos (l := listed) (k := n) (by omega)
          exact absurd hi (tail_waits hs hc (by simpa using hn') inv _ i0 rfl hi0 hun i h')
    refine DInv.step hG hL inv h hi hin fun a' w' g' h' => ih _ a' w' g' (inv.set hi hin) ?_ h'
    have := un_set (mem_ready.1 hi).1 n hin
    omega
end

/-! ### the walk -/
/-- so far in the region's head -/
def VD (P : Program) (cx : Cx) (l : List Oper) (tm0 : List (Nat × V)) (st0 stO : List E) (nb0 : Nat) (ds : List Nat) (Q : VE → St → Prop) (hd tl : List Oper) (i : Nat) (acc : List Ac) (tm : List (Nat × V)) (st : List E) (nb : Nat) : Prop :=
  i = acc.length → l = l.take acc.length ++ (hd ++ tl) → acc.length ≤ l.length → Good P cx l tm0 st0 stO ds nb0 acc tm st nb →
    ∃ L tmF stF nbF, Good P cx l tm0 st0 stO ds nb0 L tmF stF nbF ∧ L.length = acc.length + hd.length ∧ VL P cx l tl ⟨tmF, stF, nbF⟩ Q
def splitN : Nat → List Oper → Option (List Oper × List Oper)
  | 0, l => some ([], l)
  | _ + 1, [] => none
  | n + 1, o :: l => match splitN n l with
    | none => none
    | some (a, b) => some (o :: a, b)
theorem splitN_spec : ∀ {n : Nat} {l a b : List Oper}, splitN n l = some (a, b) → l = a ++ b ∧ a.length = n
  | 0, l, a, b, h => by simp only [splitN, Option.some.injEq, Prod.mk.injEq] at h; obtain ⟨rfl, rfl⟩ := h; simp
  | n + 1, [], a, b, h => by simp [splitN] at h
  | n + 1, o :: l, a, b, h => by
    simp only [splitN] at h
    split at h
    · cases h
    · rename_i a' b' hr
      cases h
      have := splitN_spec hr
      exact ⟨by rw [this.1]; rfl, by simp [this.2]⟩
section
variable {P : Program} {cx : Cx} {l : List Oper} {tm0 : List (Nat × V)} {st0 stO : List E} {nb0 : Nat} {ds : List Nat} {Q : VE → St → Prop} {hd tl : List Oper} {i : Nat} {acc : List Ac} {tm : List (Nat × V)} {st : List E} {nb : Nat}
theorem vd_done (h : VL P cx l tl ⟨tm, st, nb⟩ Q) : VD P cx l tm0 st0 stO nb0 ds Q [] tl i acc tm st nb := fun _ _ _ hG => ⟨acc, tm, st, nb, hG, by simp, h⟩
theorem vd_step {o : Oper} {d : Nat} {v : V} {e p vis : List E} {nm : Option Nat} {nb' : Nat} {tmI : List (Nat × V)} (k : VD P cx l tm0 st0 stO nb0 ds Q hd tl (i + 1) (⟨i, d, v, e, vis, nm, none, p, none⟩ :: acc) ((d, v) :: tm) (e ++ st) nb') (ho : (o.dst = some d ∧ d < cx.N) ∨ (o.dst = none ∧ v = .d .any)) (hds : memN d ds = true) (hfa : findA d acc = none)
    (hsel : selT o.after.toList ds acc tm0 (gT l o ++ tmpsO o) = some tmI) (hvis : visF acc o.after.toList = some vis) (hop : OpI P cx l o tmI (vis ++ st0) nm v p) (hnm : (nm = none ∧ nb' = nb ∧ p = []) ∨ (nm = some nb ∧ nb' = nb + 1)) (hpp : p = [] ∨ ∃ e', p = [e']) (hrb : namR nb p = true) (hep : e = p ∨ e = []) :
    VD P cx l tm0 st0 stO nb0 ds Q (o :: hd) tl i acc tm st nb := fun hi hl hle hG => by
  have hlen : acc.length < l.length := by
    have := congrArg List.length hl
    simp at this; omega
  have hget : l[acc.length]? = some o := by
    rw [hl, List.getElem?_append_right (by simp; omega)]
    simp [Nat.min_eq_left hle]
  have hS : Stp P cx l tm0 st0 stO ds nb0 acc ⟨i, d, v, e, vis, nm, none, p, none⟩ nb nb' := ⟨⟨o, tmI, hget, hsel, hvis, ho, .inl ⟨rfl, hop⟩⟩, hep, .inl ⟨rfl, fun k hk => by
    rcases hnm with ⟨_, _, e⟩ | ⟨e, _⟩
    · simp only [e, noR]
    · exact namR_spec (fun e2 => hk (by rw [e, e2])) hrb⟩, hi, ⟨hds, hfa⟩, hnm.imp (fun h => ⟨h.1, h.2.1⟩) id, hpp⟩
  obtain ⟨L, a1, a2, a3, h1, h2, h3⟩ := k (by simp [hi]) (by
    have h4 : l.take (acc.length + 1) = l.take acc.length ++ [o] := by rw [List.take_add_one, hget]; rfl
    simp only [List.length_cons, h4]
    rw [List.append_assoc]; exact hl) (by simp; omega) (.cons hG hS)
  exact ⟨L, a1, a2, a3, h1, by rw [h2]; simp; omega, h3⟩
theorem vw_drawk {id : Nat} {s : St} {st0 : List E} (n : Nat) (hst0 : ∀ B g w, SimS B g w s.st → SimS B g w st0) (hB : drawB l n = true) (hm : P.follows .mixedOrders = true) {hd tl : List Oper} (hsp : splitN n l = some (hd, tl)) (h : VD P cx l s.tm st0 s.st s.nb (dstL hd) Q hd tl 0 [] s.tm st0 s.nb) : VW P cx (.region id l.toArray true) s Q := fun m g0 w0 g a w hE hS => by
  obtain ⟨hsp1, hsp2⟩ := splitN_spec hsp
  simp only [drawB, Bool.and_eq_true, Bool.or_eq_true, decide_eq_true_eq, List.all_eq_true, List.mem_range] at hB
  obtain ⟨⟨⟨h1, h2⟩, h3⟩, h4⟩ := hB
  obtain ⟨L, tmF, stF, nbF, hG, hL, hT⟩ := h rfl (by simpa using hsp1) (Nat.zero_le _) .nil
  have hL' : L.length = n := by simpa [hsp2] using hL
  have htl : tl = l.drop n := by rw [hsp1, ← hsp2]; simp
  have hN : NewO cx.B g w g w.drew none := ⟨⟨rfl, rfl, rfl, Nat.le_refl _, fun h => h, fun h => h, fun _ _ h => ⟨h, rfl⟩, rfl, fun _ _ => rfl⟩, fun _ _ => rfl, fun _ _ => ⟨rfl, rfl, rfl⟩⟩
  have hF := hG.facts
  have inv0 : HeadInv .any l.toArray n (Array.replicate l.toArray.size false) :=
    ⟨by simp, fun j oj _ hl => (by rw [getD_replicate_false] at hl; cases hl), fun t _ ht => getD_in (by simpa using ht) (getD_replicate_false _ _)⟩
  refine wpIn_region_any hm ?_
  have := DInv.all (m := m) (g0 := g0) (w0 := w0) (Q := vpost cx g0 w0 Q) hF hL' h1 (by rcases h2 with h | ⟨⟨a, b⟩, c⟩; exact .inl h; exact .inr ⟨a, b, c⟩) h3 (fun i o hi ho e he hb => by
    have := h4 i hi
    rw [ho] at this
    simp only [Option.map_some, Option.getD_some, List.all_eq_true, Bool.or_eq_true, Bool.not_eq_true', decide_eq_true_eq] at this
    exact (this e (by simpa using he)).resolve_left (by rw [hb]; simp)) (fun g a w hE hS => by rw [← htl]; exact hT m g0 w0 g a w hE hS) n (Array.replicate l.toArray.size false) a w.drew g inv0 (un_none _ _ (by simpa using h1)) ⟨hE.trans hN.evo, hS.size, fun _ ht => hN.evo.vrep (hS.tm ht), fun x _ hl => (by rw [getD_replicate_false] at hl; cases hl), (hst0 _ _ _ hS.st).newO hN hS.inv (fun _ h => by cases h), (hS.inv.evo (w' := w.drew) (Nat.le_refl _)).up hF.up, hS.defers.evo hN.evo, fun x hx _ k hk => ?_, ?con, fun x hx _ k E0 hc y hy hl => (by rw [getD_replicate_false] at hl; cases hl)⟩
  · rw [show n + (l.length - n) = l.toArray.size from by simp; omega] at this
    exact this
  · have := (hF.nmb x hx k hk).1
    refine ⟨?_, ?_, fun i => ?_⟩
    · cases e : g.bx k with
      | none => rfl
      | some b => have := (hS.inv.bxlt e).2; omega
    · cases e : g.rb k with
      | none => rfl
      | some b => have := (hS.inv.rblt e).2; omega
    · cases e : g.rw k i with
      | none => rfl
      | some b => have := hS.inv.rwlt e; omega
  case con =>
    intro x hx _ k E0 hc hcond
    obtain ⟨B', _, _, kS, _⟩ := hF.stp x hx
    have hE0 : EOk s.st k E0 := by
      rcases kS.c with ⟨q, _⟩ | ⟨k2, E', q, _, _, _, q5⟩
      · rw [hc] at q; cases q
      · rw [hc] at q; cases q
        rcases q5 with ⟨_, ⟨_, q6⟩, _⟩ | ⟨z, _, q7, _⟩
        · exact q6
        · have := hcond _ q7; rw [getD_replicate_false] at this; cases this
    rcases hE0 with ⟨nw, ver, e, sz, lr, rfl, hr⟩ | ⟨off, vs, rfl, hr⟩
    rotate_left
    · refine SimS.newO (nb := s.nb) (k := none) hN hS.inv (fun _ h => by cases h) ⟨fun {i o v} h => ?_, fun h => by simp [rowAt] at h, fun h => by simp [loopAt] at h⟩
      simp only [cellAt] at h
      split at h
      · rename_i hb
        have := Nat.eq_of_beq_eq_true hb
        subst this
        split at h
        · rename_i ho
          have ho := Nat.le_of_ble_eq_true ho
          split at h
          · rename_i v' hv'
            cases h
            have := hr _ _ hv'
            rw [show off + (o - off) = o by omega] at this
            exact hS.st.cell this
          · cases h
        · cases h
      · cases h
    · refine SimS.newO (nb := s.nb) (k := none) hN hS.inv (fun _ h => by cases h) ⟨fun h => by simp [cellAt] at h, fun {i o nw' ver' e' sz' l'} h => ?_, fun h => by simp [loopAt] at h⟩
      simp only [rowAt] at h
      split at h
      · rename_i hb
        have := Nat.eq_of_beq_eq_true hb
        subst this
        cases h
        exact hS.st.row hr
      · cases h
theorem vw_draw {id : Nat} {s : St} (n : Nat) (hB : drawB l n = true) (hm : P.follows .mixedOrders = true) {hd tl : List Oper} (hsp : splitN n l = some (hd, tl)) (h : VD P cx l s.tm s.st s.st s.nb (dstL hd) Q hd tl 0 [] s.tm s.st s.nb) : VW P cx (.region id l.toArray true) s Q := vw_drawk n (fun _ _ _ h => h) hB hm hsp h
theorem vw_drid {id : Nat} {a : Array Oper} {s : St} (h : VW P cx (.region id a true) s Q) : VW P cx (.region id a true) s Q := h
theorem vd_id (h : VD P cx l tm0 st0 stO nb0 ds Q hd tl i acc tm st nb) : VD P cx l tm0 st0 stO nb0 ds Q hd tl i acc tm st nb := h
/-- a row that one behind this appends to -/
def resv (d : Nat) : List Oper → Bool
  | [] => false
  | ⟨_, .call c, _, _, _, _⟩ :: r => (match c.callee with
    | .builtin .append => (match c.args.toList with
      | .tmp t :: _ => (match Nat.beq t d with
        | true => true
        | false => resv d r)
      | _ => resv d r)
    | _ => resv d r)
  | _ :: r => resv d r
variable {gd : Option (Nat × Bool)}
theorem vd_case {d : Tmp} {op : Op} {ty : TypeId} {pos : String} {af : Array Edge} {j : Nat} {bw : Bool} {t : Nat} {b : Bool} (h1 : b = true → VD P cx l tm0 st0 stO nb0 ds Q (⟨some d, op, ty, pos, af, some (j, bw)⟩ :: hd) tl i acc tm st nb) (h2 : b = false → VD P cx l tm0 st0 stO nb0 ds Q (⟨some d, op, ty, pos, af, some (j, bw)⟩ :: hd) tl i acc tm st nb)
    (_ht : (l[j]?).bind (·.dst) = some t := by rfl) (_hv : lookT t tm = some (.d (.lit (.bool b))) := by rfl) : VD P cx l tm0 st0 stO nb0 ds Q (⟨some d, op, ty, pos, af, some (j, bw)⟩ :: hd) tl i acc tm st nb := by
  cases hb : b with
  | true => exact h1 hb
  | false => exact h2 hb
theorem vd_lit {d : Tmp} {op : Op} {ty : TypeId} {pos : String} {af : Array Edge} {j : Nat} {bw : Bool} {t : Nat} {v : V} (k : VD P cx l tm0 st0 stO nb0 ds Q (⟨some d, op, ty, pos, af, some (j, bw)⟩ :: hd) tl i acc tm st nb)
    (_ht : (l[j]?).bind (·.dst) = some t := by rfl) (_hv : lookT t tm = some v := by rfl) (_hl : v = .d (.lit (.bool true)) ∨ v = .d (.lit (.bool false)) ∨ v = .d (.lit undef) := by first | (left; with_reducible rfl) | (right; left; with_reducible rfl) | (right; right; with_reducible rfl)) : VD P cx l tm0 st0 stO nb0 ds Q (⟨some d, op, ty, pos, af, some (j, bw)⟩ :: hd) tl i acc tm st nb := k
/-- the guard says no -/
theorem vd_skip {d : Tmp} {op : Op} {ty : TypeId} {pos : String} {af : Array Edge} {j : Nat} {b : Bool} {t : Nat} {v0 : V} {vis : List E} {tmI : List (Nat × V)} (k : VD P cx l tm0 st0 stO nb0 ds Q hd tl (i + 1) (⟨i, d, .d (.lit undef), [], vis, none, none, [], none⟩ :: acc) ((d, .d (.lit undef)) :: tm) st nb)
    (hsel : selT af.toList ds acc tm0 (gT l ⟨some d, op, ty, pos, af, some (j, b)⟩ ++ []) = some tmI := by rfl) (hselA : (selT af.toList ds acc tm0 (gT l ⟨some d, op, ty, pos, af, some (j, b)⟩ ++ tmpsL op.operands.toList)).isSome = true := by rfl) (hvis : visF acc af.toList = some vis := by rfl)
    (h1 : (l[j]?).bind (·.dst) = some t := by rfl) (h2 : lookT t tmI = some v0 := by rfl) (hc : SkipB b v0 ∨ v0 = .d (.lit undef) := by first | (left; (with_reducible apply SkipB.tf); with_reducible rfl) | (left; (with_reducible apply SkipB.ft); with_reducible rfl) | (right; with_reducible rfl))
    (hd' : Nat.blt d cx.N = true := by rfl) (hds : memN d ds = true := by rfl) (hfa : findA d acc = none := by rfl) : VD P cx l tm0 st0 stO nb0 ds Q (⟨some d, op, ty, pos, af, some (j, b)⟩ :: hd) tl i acc tm st nb := by
  obtain ⟨tmA, hA⟩ := Option.isSome_iff_exists.1 hselA
  have hgt : gT l ⟨some d, op, ty, pos, af, some (j, b)⟩ = [t] := by simp only [gT, h1]
  have hA2 : lookT t tmA = some v0 := by
    rw [hgt] at hsel hA
    simp only [List.cons_append, List.nil_append] at hsel hA
    simp only [selT] at hsel hA
    split at hA
    · cases hA
    · split at hsel
      · rename_i hx
        simp only [hx] at hA
        split at hsel
        · rename_i hm
          simp only [hm] at hA
          cases hsel; cases hA
          simp only [lookT, Nat.beq_refl] at h2 ⊢; exact h2
        · cases hsel
      · rename_i hx
        simp only [hx] at hA
        split at hsel
        · cases hsel
        · rename_i hm
          simp only [hm] at hA
          split at hsel
          · rename_i hv
            simp only [hv] at hA
            cases hsel; cases hA
            simp only [lookT, Nat.beq_refl] at h2 ⊢; exact h2
          · cases hsel; simp [lookT] at h2
  exact vd_step k (.inl ⟨rfl, Nat.le_of_ble_eq_true hd'⟩) hds hfa hA hvis (OpI.skip rfl h1 hA2 hc (.inl rfl)) (.inl ⟨rfl, rfl, rfl⟩) (.inl rfl) rfl (.inl rfl)
theorem vd_q {d : Tmp} {op : Op} {ty : TypeId} {pos : String} {af : Array Edge} {v : V} {vis : List E} {tmI : List (Nat × V)} (k : VD P cx l tm0 st0 stO nb0 ds Q hd tl (i + 1) (⟨i, d, v, [], vis, none, none, [], none⟩ :: acc) ((d, v) :: tm) st nb)
    (hsel : selT af.toList ds acc tm0 (gT l ⟨some d, op, ty, pos, af, gd⟩ ++ tmpsL op.operands.toList) = some tmI := by rfl) (hvis : visF acc af.toList = some vis := by rfl) (hw : Wd l tmI gd := by first | exact trivial | exact wd_of rfl rfl (by with_reducible rfl))
    (h : ∀ nb, OpQ P cx op ty ⟨tmI, vis ++ st0, nb⟩ v := by intro nb; first | ((with_reducible apply q_move); rfl) | ((with_reducible apply q_assign); rfl) | ((with_reducible apply q_load) <;> rfl) | ((with_reducible apply q_fldp); rfl) | ((with_reducible apply q_loade) <;> rfl) | ((with_reducible apply q_loades) <;> (first | rfl | assumption)) | ((with_reducible apply q_loads) <;> rfl) | ((with_reducible apply q_flde); rfl) | ((with_reducible apply q_fldr); rfl) | ((with_reducible apply q_eq) <;> rfl) | ((with_reducible apply q_ne) <;> rfl) | ((with_reducible apply q_lt) <;> rfl) | ((with_reducible apply q_le) <;> rfl) | ((with_reducible apply q_gt) <;> rfl) | ((with_reducible apply q_ge) <;> rfl) | ((with_reducible apply q_nott); exact ev_of rfl (by with_reducible rfl)) | ((with_reducible apply q_notf); exact ev_of rfl (by with_reducible rfl)) | ((with_reducible apply q_not); rfl) | ((with_reducible apply q_pickt); exact ev_of rfl (by with_reducible rfl); rfl) | ((with_reducible apply q_pickf); exact ev_of rfl (by with_reducible rfl); rfl) | ((with_reducible apply q_nilp); rfl) | ((with_reducible apply q_nile); rfl) | ((with_reducible apply q_nilr); rfl) | ((with_reducible apply q_nilf); rfl) | ((with_reducible apply q_add); rfl; rfl; (simp only [inK]; omega)) | ((with_reducible apply q_sub); rfl; rfl; (simp only [inK]; omega)) | ((with_reducible apply q_mul); rfl; rfl; (simp only [inK]; omega)) | ((with_reducible apply q_len) <;> rfl) | ((with_reducible apply q_min) <;> rfl) | ((with_reducible apply q_max) <;> rfl) | ((with_reducible apply q_ext) <;> rfl) | ((with_reducible apply q_extd) <;> rfl) | ((with_reducible apply q_mkf) <;> rfl) | ((with_reducible apply q_mki); rfl) | ((with_reducible apply q_idxp); rfl; rfl; omega; omega) | ((with_reducible apply q_idx); rfl; rfl; rfl; omega; (first | rfl | assumption); (first | rfl | assumption)) | ((with_reducible apply q_idxr); rfl; rfl; rfl; omega; omega) | ((with_reducible apply q_loadr); rfl; rfl; (first | rfl | assumption); rfl) | ((with_reducible apply q_loadrs); rfl; rfl; (first | rfl | assumption); exact Nat.le_of_ble_eq_true rfl) | ((with_reducible apply q_build) <;> rfl) | ((with_reducible apply q_builda) <;> rfl) | ((with_reducible apply q_slicep) <;> rfl) | ((with_reducible apply q_slicee) <;> rfl) | ((with_reducible apply q_slice); rfl; rfl; rfl; rfl; (first | exact Int.le_refl _ | omega | (simp only [Option.getD]; omega)); (simp only [Option.getD]; omega); (first | exact Int.le_refl _ | (simp only [Option.getD]; omega)); (first | assumption | (simp; fail_if_success (focus skip)))) | ((with_reducible apply q_slicerv); rfl; rfl; rfl; rfl; (first | exact Int.le_refl _ | omega); (first | exact Int.le_refl _ | omega)) | ((with_reducible apply q_slice3); rfl; rfl; rfl; rfl; rfl; (first | exact Int.le_refl _ | (simp only [Option.getD]; omega)); (simp only [Option.getD]; omega); (first | exact Int.le_refl _ | omega); (first | assumption | (simp; fail_if_success (focus skip)))) | ((with_reducible apply q_index); rfl; rfl; rfl; rfl; omega; omega; (first | rfl | assumption)) | ((with_reducible apply q_field) <;> rfl) | ((with_reducible apply q_fields) <;> rfl) | ((with_reducible apply q_neit) <;> rfl) | ((with_reducible apply q_neif) <;> rfl) | ((with_reducible apply q_eqit) <;> rfl) | ((with_reducible apply q_eqif) <;> rfl) | ((with_reducible apply q_ta) <;> rfl) | ((with_reducible apply q_ta1) <;> rfl) | ((with_reducible apply q_eqb) <;> rfl) | ((with_reducible apply q_neb) <;> rfl) | ((with_reducible apply q_bstr); rfl; (first | exact .sl | exact .nil)) | ((with_reducible apply q_eqs) <;> rfl) | ((with_reducible apply q_nes) <;> rfl) | ((with_reducible apply q_convi); rfl; (simp only [inK]; omega)) | ((with_reducible apply q_convw); rfl) | ((with_reducible apply q_bini); rfl; rfl; exact fun _ => rfl) | ((with_reducible apply q_un); rfl; exact fun _ => rfl))
    (hd' : Nat.blt d cx.N = true := by rfl) (hn : noDefer op = true := by rfl) (hds : memN d ds = true := by rfl) (hfa : findA d acc = none := by rfl) : VD P cx l tm0 st0 stO nb0 ds Q (⟨some d, op, ty, pos, af, gd⟩ :: hd) tl i acc tm st nb :=
  vd_step k (.inl ⟨rfl, Nat.le_of_ble_eq_true hd'⟩) hds hfa hsel hvis (OpI.of hw (OpN.ofQ h hn)) (.inl ⟨rfl, rfl, rfl⟩) (.inl rfl) rfl (.inl rfl)
theorem vd_r {d : Tmp} {op : Op} {ty : TypeId} {pos : String} {af : Array Edge} {v : V} {e : E} {vis : List E} {tmI : List (Nat × V)} (k : VD P cx l tm0 st0 stO nb0 ds Q hd tl (i + 1) (⟨i, d, v, [e], vis, some nb, none, [e], none⟩ :: acc) ((d, v) :: tm) (e :: st) (nb + 1))
    (hsel : selT af.toList ds acc tm0 (gT l ⟨some d, op, ty, pos, af, gd⟩ ++ tmpsL op.operands.toList) = some tmI := by rfl) (hvis : visF acc af.toList = some vis := by rfl) (hw : Wd l tmI gd := by first | exact trivial | exact wd_of rfl rfl (by with_reducible rfl))
    (h : OpR P cx op ty tmI (vis ++ st0) v nb e := by first | (with_reducible apply r_alloc) | ((with_reducible apply r_box) <;> rfl) | ((with_reducible apply r_bs) <;> rfl) | ((with_reducible apply r_make); rfl; rfl; omega; omega; decide; rfl) | ((with_reducible apply r_appn); rfl; rfl; (first | exact .row rfl | exact .nil | exact .sl (by first | assumption | (simp; fail_if_success (focus skip)))); (first | omega | (simp; omega)); decide) | ((with_reducible apply r_appc); rfl; (first | exact .rv rfl (Nat.le_refl _) | exact .rv rfl (by omega) | exact .sl (by first | assumption | (simp; fail_if_success (focus skip)))); rfl; (first | exact .row rfl | exact .sl (by first | assumption | (simp; fail_if_success (focus skip)))); (first | omega | simp); (first | omega | (simp; omega)); decide))
    (hd' : Nat.blt d cx.N = true := by rfl) (hn : noDefer op = true := by rfl) (hds : memN d ds = true := by rfl) (hfa : findA d acc = none := by rfl) (hrb : namR nb [e] = true := by rfl) : VD P cx l tm0 st0 stO nb0 ds Q (⟨some d, op, ty, pos, af, gd⟩ :: hd) tl i acc tm st nb :=
  vd_step k (.inl ⟨rfl, Nat.le_of_ble_eq_true hd'⟩) hds hfa hsel hvis (OpI.of hw (OpN.ofR h hn)) (.inr ⟨rfl, rfl⟩) (.inr ⟨_, rfl⟩) hrb (.inl rfl)
/-- what is made is left to an append behind it -/
theorem vd_rp {d : Tmp} {op : Op} {ty : TypeId} {pos : String} {af : Array Edge} {v : V} {e : E} {vis : List E} {tmI : List (Nat × V)} (k : VD P cx l tm0 st0 stO nb0 ds Q hd tl (i + 1) (⟨i, d, v, [], vis, some nb, none, [e], none⟩ :: acc) ((d, v) :: tm) st (nb + 1)) (hrs : resv d hd = true := by rfl)
    (hsel : selT af.toList ds acc tm0 (gT l ⟨some d, op, ty, pos, af, gd⟩ ++ tmpsL op.operands.toList) = some tmI := by rfl) (hvis : visF acc af.toList = some vis := by rfl) (hw : Wd l tmI gd := by first | exact trivial | exact wd_of rfl rfl (by with_reducible rfl))
    (h : OpR P cx op ty tmI (vis ++ st0) v nb e := by first | (with_reducible apply r_alloc) | ((with_reducible apply r_box) <;> rfl) | ((with_reducible apply r_bs) <;> rfl) | ((with_reducible apply r_make); rfl; rfl; omega; omega; decide; rfl) | ((with_reducible apply r_appn); rfl; rfl; (first | exact .row rfl | exact .nil | exact .sl (by first | assumption | (simp; fail_if_success (focus skip)))); (first | omega | (simp; omega)); decide) | ((with_reducible apply r_appc); rfl; (first | exact .rv rfl (Nat.le_refl _) | exact .rv rfl (by omega) | exact .sl (by first | assumption | (simp; fail_if_success (focus skip)))); rfl; (first | exact .row rfl | exact .sl (by first | assumption | (simp; fail_if_success (focus skip)))); (first | omega | simp); (first | omega | (simp; omega)); decide))
    (hd' : Nat.blt d cx.N = true := by rfl) (hn : noDefer op = true := by rfl) (hds : memN d ds = true := by rfl) (hfa : findA d acc = none := by rfl) (hrb : namR nb [e] = true := by rfl) : VD P cx l tm0 st0 stO nb0 ds Q (⟨some d, op, ty, pos, af, gd⟩ :: hd) tl i acc tm st nb :=
  vd_step k (.inl ⟨rfl, Nat.le_of_ble_eq_true hd'⟩) hds hfa hsel hvis (OpI.of hw (OpN.ofR h hn)) (.inr ⟨rfl, rfl⟩) (.inr ⟨_, rfl⟩) hrb (.inr rfl)
theorem vd_ret {d : Tmp} {x : Operand} {f : FuncId} {xs : Array Operand} {tys : Array TypeId} {ty : TypeId} {pos : String} {af : Array Edge} {fv : V} {vs az : List V} {ds1 ds2 : List D} {v : D} {vis : List E} {tmI : List (Nat × V)}
    (hc : VP P f ds2 (· = .ret v)) (k : VD P cx l tm0 st0 stO nb0 ds Q hd tl (i + 1) (⟨i, d, .d v, [], vis, none, none, [], none⟩ :: acc) ((d, .d v) :: tm) st nb)
    (hsel : selT af.toList ds acc tm0 (gT l ⟨some d, .call { callee := .value x, args := xs, argTypes := tys }, ty, pos, af, gd⟩ ++ tmpsL (Op.call { callee := .value x, args := xs, argTypes := tys }).operands.toList) = some tmI := by rfl) (hvis : visF acc af.toList = some vis := by rfl) (hw : Wd l tmI gd := by first | exact trivial | exact wd_of rfl rfl (by with_reducible rfl))
    (hx : evalV ⟨tmI, vis ++ st0, 0⟩ x = some fv := by rfl) (hv : evalVs ⟨tmI, vis ++ st0, 0⟩ xs.toList = some vs := by rfl) (hf : fnV fv vs = some (f, az) := by rfl) (ha : AD (vis ++ st0) az ds1 := by first | exact ad_of rfl | ((repeat' (first | exact ad_nil | exact ad_map | ((apply ad_cons); rfl))); fail_if_success (focus skip))) (hdl : DLs ds1 ds2 := by ((repeat' (first | exact dls_nil | with_reducible apply dls_cons | with_reducible exact dl_lit _ | with_reducible exact dl_lf _ | infer_instance | with_reducible apply dl_agg | with_reducible apply dl_ifc | with_reducible apply dl_pt | with_reducible apply dl_fn | with_reducible apply dl_slr | assumption | apply dl_slr)); fail_if_success (focus skip)))
    (hd' : Nat.blt d cx.N = true := by rfl) (hds : memN d ds = true := by rfl) (hfa : findA d acc = none := by rfl) : VD P cx l tm0 st0 stO nb0 ds Q (⟨some d, .call { callee := .value x, args := xs, argTypes := tys }, ty, pos, af, gd⟩ :: hd) tl i acc tm st nb :=
  vd_step k (.inl ⟨rfl, Nat.le_of_ble_eq_true hd'⟩) hds hfa hsel hvis (OpI.of hw (OpN.ret hc hx hv hf ha hdl)) (.inl ⟨rfl, rfl, rfl⟩) (.inl rfl) rfl (.inl rfl)
theorem vd_own {d : Tmp} {x : Operand} {f : FuncId} {xs : Array Operand} {tys : Array TypeId} {ty : TypeId} {pos : String} {af : Array Edge} {fv : V} {vs az : List V} {ds1 ds2 : List D} {e : TypeId} {sz : Nat} {r : List (List D)} {vis : List E} {tmI : List (Nat × V)}
    (hc : VP P f ds2 (· = .own e sz r)) (k : VD P cx l tm0 st0 stO nb0 ds Q hd tl (i + 1) (⟨i, d, .row nb 0, [.r true true nb 0 e sz r], vis, some nb, none, [.r true true nb 0 e sz r], none⟩ :: acc) ((d, .row nb 0) :: tm) (.r true true nb 0 e sz r :: st) (nb + 1)) (hrs : resv d hd = false := by rfl)
    (hsel : selT af.toList ds acc tm0 (gT l ⟨some d, .call { callee := .value x, args := xs, argTypes := tys }, ty, pos, af, gd⟩ ++ tmpsL (Op.call { callee := .value x, args := xs, argTypes := tys }).operands.toList) = some tmI := by rfl) (hvis : visF acc af.toList = some vis := by rfl) (hw : Wd l tmI gd := by first | exact trivial | exact wd_of rfl rfl (by with_reducible rfl))
    (hx : evalV ⟨tmI, vis ++ st0, 0⟩ x = some fv := by rfl) (hv : evalVs ⟨tmI, vis ++ st0, 0⟩ xs.toList = some vs := by rfl) (hf : fnV fv vs = some (f, az) := by rfl) (ha : AD (vis ++ st0) az ds1 := by first | exact ad_of rfl | ((repeat' (first | exact ad_nil | exact ad_map | ((apply ad_cons); rfl))); fail_if_success (focus skip))) (hdl : DLs ds1 ds2 := by ((repeat' (first | exact dls_nil | with_reducible apply dls_cons | with_reducible exact dl_lit _ | with_reducible exact dl_lf _ | infer_instance | with_reducible apply dl_agg | with_reducible apply dl_ifc | with_reducible apply dl_pt | with_reducible apply dl_fn | with_reducible apply dl_slr | assumption | apply dl_slr)); fail_if_success (focus skip)))
    (hd' : Nat.blt d cx.N = true := by rfl) (hds : memN d ds = true := by rfl) (hfa : findA d acc = none := by rfl) (hrb : namR nb [.r true true nb 0 e sz r] = true := by rfl) : VD P cx l tm0 st0 stO nb0 ds Q (⟨some d, .call { callee := .value x, args := xs, argTypes := tys }, ty, pos, af, gd⟩ :: hd) tl i acc tm st nb :=
  vd_step k (.inl ⟨rfl, Nat.le_of_ble_eq_true hd'⟩) hds hfa hsel hvis (OpI.of hw (OpN.own hc hx hv hf ha hdl)) (.inr ⟨rfl, rfl⟩) (.inr ⟨_, rfl⟩) hrb (.inl rfl)
theorem vd_ownp {d : Tmp} {x : Operand} {f : FuncId} {xs : Array Operand} {tys : Array TypeId} {ty : TypeId} {pos : String} {af : Array Edge} {fv : V} {vs az : List V} {ds1 ds2 : List D} {e : TypeId} {sz : Nat} {r : List (List D)} {vis : List E} {tmI : List (Nat × V)}
    (hc : VP P f ds2 (· = .own e sz r)) (k : VD P cx l tm0 st0 stO nb0 ds Q hd tl (i + 1) (⟨i, d, .row nb 0, [], vis, some nb, none, [.r true true nb 0 e sz r], none⟩ :: acc) ((d, .row nb 0) :: tm) st (nb + 1)) (hrs : resv d hd = true := by rfl)
    (hsel : selT af.toList ds acc tm0 (gT l ⟨some d, .call { callee := .value x, args := xs, argTypes := tys }, ty, pos, af, gd⟩ ++ tmpsL (Op.call { callee := .value x, args := xs, argTypes := tys }).operands.toList) = some tmI := by rfl) (hvis : visF acc af.toList = some vis := by rfl) (hw : Wd l tmI gd := by first | exact trivial | exact wd_of rfl rfl (by with_reducible rfl))
    (hx : evalV ⟨tmI, vis ++ st0, 0⟩ x = some fv := by rfl) (hv : evalVs ⟨tmI, vis ++ st0, 0⟩ xs.toList = some vs := by rfl) (hf : fnV fv vs = some (f, az) := by rfl) (ha : AD (vis ++ st0) az ds1 := by first | exact ad_of rfl | ((repeat' (first | exact ad_nil | exact ad_map | ((apply ad_cons); rfl))); fail_if_success (focus skip))) (hdl : DLs ds1 ds2 := by ((repeat' (first | exact dls_nil | with_reducible apply dls_cons | with_reducible exact dl_lit _ | with_reducible exact dl_lf _ | infer_instance | with_reducible apply dl_agg | with_reducible apply dl_ifc | with_reducible apply dl_pt | with_reducible apply dl_fn | with_reducible apply dl_slr | assumption | apply dl_slr)); fail_if_success (focus skip)))
    (hd' : Nat.blt d cx.N = true := by rfl) (hds : memN d ds = true := by rfl) (hfa : findA d acc = none := by rfl) (hrb : namR nb [.r true true nb 0 e sz r] = true := by rfl) : VD P cx l tm0 st0 stO nb0 ds Q (⟨some d, .call { callee := .value x, args := xs, argTypes := tys }, ty, pos, af, gd⟩ :: hd) tl i acc tm st nb :=
  vd_step k (.inl ⟨rfl, Nat.le_of_ble_eq_true hd'⟩) hds hfa hsel hvis (OpI.of hw (OpN.own hc hx hv hf ha hdl)) (.inr ⟨rfl, rfl⟩) (.inr ⟨_, rfl⟩) hrb (.inr rfl)
theorem vd_cE {o : Oper} {d : Nat} {v : V} {ent E0 : E} {e vis : List E} {tmI : List (Nat × V)} {k : Nat} {r : Option Nat} (kk : VD P cx l tm0 st0 stO nb0 ds Q hd tl (i + 1) (⟨i, d, v, e, vis, none, some (k, E0), [ent], r⟩ :: acc) ((d, v) :: tm) (e ++ st) nb) (ho : (o.dst = some d ∧ d < cx.N) ∨ (o.dst = none ∧ v = .d .any)) (hds : memN d ds = true) (hfa : findA d acc = none)
    (hsel : selT o.after.toList ds acc tm0 (gT l o ++ tmpsO o) = some tmI) (hvis : visF acc o.after.toList = some vis) (hw : Wd l tmI o.guard) (hop : OpC P cx o tmI (vis ++ st0) k E0 v ent) (hn0 : noR k st0 = true) (hne : ∀ k', k' ≠ k → noR k' [ent] = true) (hne0 : ∀ k', k' ≠ k → noR k' [E0] = true) (hep : e = [ent] ∨ e = [])
    (hr : (r = none ∧ (k < nb0 ∧ EOk stO k E0) ∧ noC k acc = true) ∨ ∃ z, lastT k acc = some z ∧ r = some z.i ∧ z.p = [E0] ∧ z.e = [] ∧ memE z.i o.after.toList = true) :
    VD P cx l tm0 st0 stO nb0 ds Q (o :: hd) tl i acc tm st nb := fun hi hl hle hG => by
  have hlen : acc.length < l.length := by
    have := congrArg List.length hl
    simp at this; omega
  have hget : l[acc.length]? = some o := by
    rw [hl, List.getElem?_append_right (by simp; omega)]
    simp [Nat.min_eq_left hle]
  have hS : Stp P cx l tm0 st0 stO ds nb0 acc ⟨i, d, v, e, vis, none, some (k, E0), [ent], r⟩ nb nb := ⟨⟨o, tmI, hget, hsel, hvis, ho, .inr ⟨k, _, ent, rfl, rfl, rfl, hw, hop, fun j hj => by
      rcases hr with ⟨h, _⟩ | ⟨z, _, h, _, _, h2⟩
      · simp only at hj; rw [h] at hj; cases hj
      · simp only at hj; rw [h] at hj; cases hj; exact h2⟩⟩, hep, .inr ⟨k, _, rfl, hn0, hne, hne0, hr.imp id fun ⟨z, h1, h2, h3, h4, _⟩ => ⟨z, h1, h2, h3, h4⟩⟩, hi, ⟨hds, hfa⟩, .inl ⟨rfl, rfl⟩, .inr ⟨_, rfl⟩⟩
  obtain ⟨L, a1, a2, a3, h1, h2, h3⟩ := kk (by simp [hi]) (by
    have h4 : l.take (acc.length + 1) = l.take acc.length ++ [o] := by rw [List.take_add_one, hget]; rfl
    simp only [List.length_cons, h4]
    rw [List.append_assoc]; exact hl) (by simp; omega) (.cons hG hS)
  exact ⟨L, a1, a2, a3, h1, by rw [h2]; simp; omega, h3⟩
theorem noR_ne {k : Nat} {o nw : Bool} {ver : Nat} {e : TypeId} {sz : Nat} {lr : List (List D)} : ∀ k', k' ≠ k → noR k' [.r o nw k ver e sz lr] = true := fun k' hk' => by
  simp only [noR]
  rw [show Nat.beq k' k = false from by
    cases hb : Nat.beq k' k
    · rfl
    · exact (hk' (Nat.eq_of_beq_eq_true hb)).elim]
theorem noR_nec {k off : Nat} {vs : List V} : ∀ k', k' ≠ k → noR k' [.c k off vs] = true := fun k' hk' => by
  simp only [noR]
  rw [show Nat.beq k' k = false from by
    cases hb : Nat.beq k' k
    · rfl
    · exact (hk' (Nat.eq_of_beq_eq_true hb)).elim]
theorem cellsAt_drop {st : List E} {k off : Nat} {old : List V} : ∀ {n i : Nat}, i + n = old.length → cellsAt k (off + i) (.c k off old :: st) n = some (old.drop i)
  | 0, i, h => by simp only [cellsAt]; rw [List.drop_eq_nil_of_le (by omega)]
  | n + 1, i, h => by
    have hi : i < old.length := by omega
    have hc : cellAt k (off + i) (.c k off old :: st) = some old[i] := by
      simp only [cellAt, Nat.beq_refl]
      rw [Nat.ble_eq_true_of_le (by omega : off ≤ off + i)]
      simp only [show off + i - off = i by omega, List.getElem?_eq_getElem hi]
    have ih := cellsAt_drop (st := st) (k := k) (off := off) (old := old) (n := n) (i := i + 1) (by omega)
    simp only [cellsAt, hc]
    rw [show off + i + 1 = off + (i + 1) by omega, ih]
    simp
theorem cellsAt_self {st : List E} {k off : Nat} (old : List V) : cellsAt k off (.c k off old :: st) old.length = some old := by
  have := cellsAt_drop (st := st) (k := k) (off := off) (old := old) (n := old.length) (i := 0) (by omega)
  simpa using this
/-- a variable is stored -/
theorem c_store {t ty : TypeId} {x y : Operand} {k off sz : Nat} {ag : Bool} {z : List Value} {v : V} {vs old : List V} {pos : String} {af : Array Edge} [hT : TyI P t ag (sz + 1) z] (hx : ∀ nb, evalV ⟨tm, st, nb⟩ x = some (.ptr k off)) (hy : ∀ nb, evalV ⟨tm, st, nb⟩ y = some v) (hv : cellsV v = some vs) (hl : vs.length = sz + 1) (h1 : leaves vs = true) (hol : old.length = sz + 1) (hnk : noR k st = true) :
    OpC P cx ⟨none, .store t x y, ty, pos, af, none⟩ tm st k (.c k off old) (.d .any) (.c k off vs) := fun n nb g a w K Qx hS hE0 hK => by
  have hold : cellsAt k off (.c k off old :: st) (sz + 1) = some old := by rw [← hol]; exact cellsAt_self old
  obtain ⟨w', r1, r2, r3, r4⟩ := store_core (hT := hT) (ty := ty) (s := ⟨tm, .c k off old :: st, nb⟩) (hx nb) (hy nb) hv hl h1 hold hS
  refine ⟨fun _ _ => trivial, ?_⟩
  rw [Oper.semAt_plain (FW cx.rd) _ _ (by intro c e; cases e), execOp_bare, r1]
  have hk := hK undef g w' r2 (fun _ _ => ⟨rfl, rfl, rfl⟩) (fun st' hn hs => simS_tailc (r4 st' hs) hn) (r4 [] SimS.nil) r3 (by simp only [vrep, drep])
  exact hk
theorem c_app {t ty el : TypeId} {x y : Operand} {k ver sz by_ : Nat} {l1 l2 : List (List D)} {nw : Bool} {v2 : V} {dst : Option Tmp} {pos : String} {af : Array Edge} {gd : Option (Nat × Bool)} [hE : SlI P t el sz by_] (hx : ∀ nb, evalV ⟨tm, st, nb⟩ x = some (.row k ver)) (hy : ∀ nb, evalV ⟨tm, st, nb⟩ y = some v2) (hsrc : SrcV st sz v2 l2) (hnk : noR k st = true)
    (hb : (l1.length + l2.length) * by_ ≤ 140737488355328) (h0 : 0 < by_) : OpC P cx ⟨dst, .call { callee := .builtin .append, args := #[x, y], argTypes := #[t, t] }, ty, pos, af, gd⟩ tm st k (.r true nw k ver el sz l1) (.row k (ver + 1)) (.r true nw k (ver + 1) el sz (l1 ++ l2)) := fun n nb g a w K Qx hS hE0 hK => by
  have hst : SimS cx.B g w st := simS_tail hS.st hnk
  have hS' : Sim cx g a w ⟨tm, st, nb⟩ := ⟨hS.size, hS.tm, hst, hS.inv, hS.defers⟩
  have hx' := hS'.eval (hx nb)
  simp only [vrep] at hx'
  have hrk : ∀ st' : List E, rowAt k (.r true nw k ver el sz l1 :: st') = some (true, nw, ver, el, sz, l1) := fun st' => by simp only [rowAt, Nat.beq_refl]
  obtain ⟨v, xs, r1, r2, r3, r4, r5⟩ := hE0.row (hrk [])
  rw [hx'.1] at r1; cases r1
  rcases r5 with ⟨_, r5, r6⟩ | ⟨h, _⟩
  · obtain ⟨us, s1, s2, s3, s4, s5⟩ := hsrc.rep hst (hS'.eval (hy nb))
    have hml : l1.length + l2.length ≤ maxLen := by
      have := Nat.le_mul_of_pos_right (l1.length + l2.length) h0
      unfold maxLen; omega
    obtain ⟨v', w', hrun, h1, h2, h3⟩ := run_append_v (ty := ty) hE.elem r5 s1 s3 s4 hml hb
    have hold : ∀ b, b < w.heap.size → g.prot b → (g.prot b ∧ some b ≠ v'.ownBlock) ∧ w'.heap[b]? = w.heap[b]? := fun b hb' hp => by
      refine ⟨⟨hp, fun he => ?_⟩, h2.block b hb' fun he => hp (.inr (.inr ⟨k, r6.trans he.symm⟩))⟩
      rcases h3 b he.symm with h | h
      · exact hp (.inr (.inr ⟨k, r6.trans h⟩))
      · omega
    have key : ∀ st', SimS cx.B g w st' → _ := fun st' hs' => turn_row hS.inv (hE0.cons hs') (hrk st') hx'.1 r6 h2 (drepss_app (drepss_mono (Nat.le_refl _) hold r2) (drepss_mono (Nat.le_refl _) hold s2))
      ⟨fun x hx => (List.mem_append.1 hx).elim (r3.1 x) (s5 x), fun u hu => (List.mem_append.1 hu).elim (r3.2.1 u) (s4 u)⟩ (by rw [List.length_append]; exact h1) h3 (.inr rfl)
    obtain ⟨m1, m2, m3, m4⟩ := key [] SimS.nil
    refine ⟨fun _ _ => trivial, ?_⟩
    rw [Oper.semAt_plain (FW cx.rd) _ _ (by intro c e; cases e), execOp_bare, exec_append hrun]
    refine hK v' _ w' m1 (fun i hi => ⟨rfl, by simp [G.setRw, hi], by funext j; simp [G.setRw, hi]⟩) (fun st' hn' hs' => ?_) ?_ m3 m4
    · have h4 := (key st' hs').2.1
      exact simS_tail (simS_skip h4) hn'
    · have := m2
      exact simS_skip this
  · cases h
end

end Go.Proofs.Ytjfaihpiohccbaa

namespace Go.Proofs.Ytjfaihpiohccbaa
open Go.RowKit

/-- how a call ends -/
inductive RC where
  | ret (v : V)
  | panic (v : V)
def vcrel (B : Nat) (g : G) (w : World) : RC → Ending → Prop
  | .ret v, e => ∃ u, e = .returned u ∧ vrep B g w v u
  | .panic v, e => ∃ u, e = .panicked [{ v := u, recovered := false }] ∧ vrep B g w v u
/-- called with these values, while this log is true, function f ends so -/
def VC (P : Program) (f : FuncId) (B : Nat) (vs : List V) (st : List E) (nb : Nat) (Q : RC → List E → Nat → Prop) : Prop :=
  (∀ args w, (callFunc f args).run P w = .ok (.enter f args) w) ∧ ∀ (g : G) (w : World) (us : List Value), SimS B g w st → Inv B nb g w → vreps B g w vs us →
    Calls P f us.toArray w fun e w' => ∃ g' st' nb' r, Evo B g w g' w' ∧ SimS B g' w' st' ∧ Inv B nb' g' w' ∧ vcrel B g' w' r e ∧ Q r st' nb'
theorem VC.mono {P : Program} {f : FuncId} {B : Nat} {vs : List V} {st : List E} {nb : Nat} {Q Q' : RC → List E → Nat → Prop} (h : VC P f B vs st nb Q) (hq : ∀ r s n, Q r s n → Q' r s n) : VC P f B vs st nb Q' :=
  ⟨h.1, fun g w us h1 h2 h3 => (h.2 g w us h1 h2 h3).mono fun _ _ ⟨g', s', n', r, k1, k2, k3, k4, k5⟩ => ⟨g', s', n', r, k1, k2, k3, k4, hq _ _ _ k5⟩⟩

/-! ### worlds with the same cells -/
section
structure SameC (w w2 : World) : Prop where
  c : ∀ (b : Nat) (cs : Array Value) (t : TypeId) (fz : Nat × Nat), w.heap[b]? = some (.cells cs t fz) → w2.heap[b]? = w.heap[b]?
  l : ∀ (b : Nat) (r : Loop), w.heap[b]? = some (.loop r) → w2.heap[b]? = w.heap[b]?
variable {B : Nat} {g : G} {w w2 : World}
mutual
theorem cells_vrep (C : SameC w w2) : ∀ {v : V} {u : Value}, vrep B g w v u → vrep B g w2 v u
  | .d x, u, hu => by simp only [vrep] at hu ⊢; exact drep_at (fun p a cs h => At.cells (p := p) (fun b cs t fz hc hu => ⟨hu, C.c b cs t fz hc⟩) h) hu
  | .agg l, u, hu => by simp only [vrep] at hu ⊢; obtain ⟨cs, e, k⟩ := hu; exact ⟨cs, e, cells_vreps C k⟩
  | .tup l, u, hu => by simp only [vrep] at hu ⊢; obtain ⟨cs, e, k⟩ := hu; exact ⟨cs, e, cells_vreps C k⟩
  | .ptr k o, u, hu => by simp only [vrep] at hu ⊢; exact hu
  | .ep l, u, hu => by
    simp only [vrep] at hu ⊢
    obtain ⟨b, o, cs, e, k1, k2⟩ := hu
    refine ⟨b, o, cs, e, ?_, dreps_at (fun p a cs h => At.cells (p := p) (fun b cs t fz hc hu => ⟨hu, C.c b cs t fz hc⟩) h) k2⟩
    have := At.cells (U := g.prot) (U' := g.prot) (p := fun _ => True) (fun b cs t fz hc hu => ⟨hu, C.c b cs t fz hc⟩) (k1.imp fun b hb => ⟨hb, trivial⟩)
    exact this.imp fun b hb => hb.1
  | .row k v, u, hu => by simp only [vrep] at hu ⊢; exact hu
  | .rp k v sz i j, u, hu => by simp only [vrep] at hu ⊢; exact hu
  | .fn f a c, u, hu => by simp only [vrep] at hu ⊢; obtain ⟨xs, ys, e, k1, k2⟩ := hu; exact ⟨xs, ys, e, cells_vreps C k1, cells_vreps C k2⟩
  | .ifc t x, u, hu => by simp only [vrep] at hu ⊢; obtain ⟨y, e, k⟩ := hu; exact ⟨y, e, cells_vrep C k⟩
  | .sv _ _ _ _ _, u, hu => by simp only [vrep] at hu ⊢; exact hu
  | .yl _, u, hu => by simp only [vrep] at hu ⊢; exact hu
  | .rv _ _ _, u, hu => by simp only [vrep] at hu ⊢; exact hu
theorem cells_vreps (C : SameC w w2) : ∀ {v : List V} {u : List Value}, vreps B g w v u → vreps B g w2 v u
  | [], u, hu => by simp only [vreps] at hu ⊢; exact hu
  | v :: vs, u, hu => by simp only [vreps] at hu ⊢; obtain ⟨y, ys, e, k1, k2⟩ := hu; exact ⟨y, ys, e, cells_vrep C k1, cells_vreps C k2⟩
end
theorem cells_simS (C : SameC w w2) {st : List E} (hs : SimS B g w st) : SimS B g w2 st := by
  refine ⟨fun {k o v} hc => ?_, fun {k o nw ver e sz l} hr => ?_, fun {k r T tm0} hl => ⟨fun lp e => let ⟨b, m1, m2⟩ := (hs.loop hl).1 lp e; ⟨b, m1, (C.l b _ m2).trans m2⟩, fun ht => cells_vrep C ((hs.loop hl).2 ht)⟩⟩
  · obtain ⟨b, rcs, ty, u, m1, m2, m3, m4⟩ := hs.cell hc
    exact ⟨b, rcs, ty, u, m1, (C.c b _ _ _ m2).trans m2, m3, cells_vrep C m4⟩
  · obtain ⟨v, xs, r1, r2, r3, r4, r5⟩ := hs.row hr
    refine ⟨v, xs, r1, drepss_at (fun p a cs h => At.cells (p := p) (fun b cs t fz hc hu => ⟨hu, C.c b cs t fz hc⟩) h) r2, r3, r4, ?_⟩
    rcases r5 with ⟨e1, e2, e3⟩ | ⟨e1, e2, e3⟩
    · refine .inl ⟨e1, ⟨e2.1, ?_⟩, e3⟩
      rcases e2.2 with h | ⟨gb, cap, cur, hv, hb, hh, rest⟩
      · exact .inl h
      · exact .inr ⟨gb, cap, cur, hv, hb, (C.c gb _ _ _ hh).trans hh, rest⟩
    · exact .inr ⟨e1, e2, drep_at (fun p a cs h => At.cells (p := p) (fun b cs t fz hc hu => ⟨hu, C.c b cs t fz hc⟩) h) e3⟩
end

/-! ### from the walk -/
/-- what the walk of a function's body owes -/
def retC (P : Program) (rs : List ResultVar) (Q : RC → List E → Nat → Prop) : VE → St → Prop
  | .normal, s | .ret, s => ∃ vs, ResV P s rs vs ∧ Q (.ret (packV vs)) s.st s.nb
  | .panic v, s => Q (.panic v) s.st s.nb
  | _, _ => False
theorem Ext.evo {B nb : Nat} {g g' : G} {w w' : World} (h : Ext nb g w g' w') (hi : Inv B nb g w) : Evo B g w g' w' :=
  ⟨h.os, h.tape, h.output, h.size, fun e => h.bx (hi.bxlt e).2 e, fun e => h.rw (hi.rwlt e) e, h.blk, h.ex, h.exblk⟩
theorem left_evo {B : Nat} {g g' : G} {w w' w2 : World} {bs : List Nat} (h : Evo B g w g' w') (hi : ∀ b, g.ex b → b < w.heap.size) (hl : Left bs w' w2) (hb : ∀ b ∈ bs, w.heap.size ≤ b) : Evo B g w g' w2 :=
  ⟨hl.os.trans h.os, hl.tape.trans h.tape, hl.output.trans h.output, by rw [hl.size]; exact h.size, h.bx, h.rw, fun b hlt hp => ⟨(h.blk b hlt hp).1, (hl.block b fun hm => by have := hb b hm; omega).trans (h.blk b hlt hp).2⟩, h.ex, fun b he => (hl.block b fun hm => by have := hb b hm; have := hi b he; omega).trans (h.exblk b he)⟩
theorem left_cells {bs : List Nat} {w' w2 : World} (hl : Left bs w' w2) (hb : ∀ b ∈ bs, w'.heap[b]? = some (.deferred (some []))) : SameC w' w2 :=
  ⟨fun b cs t fz hc => hl.block b fun hm => (by rw [hb b hm] at hc; cases hc), fun b r hc => hl.block b fun hm => (by rw [hb b hm] at hc; cases hc)⟩
theorem act_args {N B nb : Nat} {M : Option Nat} {df : List (FuncId × List V)} {g : G} {w : World} {vs : List V} {st : List E} {us : List Value} {d : List Deferred} (hus : vreps B g w vs us) (hle : Nat.ble vs.length N = true) (hs : SimS B g w st) (hi : Inv B nb g w) (hd : Marks ⟨N, none, B, nb, M, df⟩ g w d) :
    Sim ⟨N, none, B, nb, M, df⟩ g { tmps := us.toArray ++ Array.replicate (N - us.toArray.size) undef, defers := d } w ⟨argsT 0 vs, st, nb⟩ := by
  have hlen := vreps_len hus
  have hle := Nat.le_of_ble_eq_true hle
  refine ⟨by simp [hlen]; omega, fun {t v} hv => ?_, hs, hi, hd⟩
  obtain ⟨h1, h2⟩ := argsT_look hv
  obtain ⟨u, hu, k⟩ := vreps_get hus h2
  have hlt := (List.getElem?_eq_some_iff.1 hu).1
  simp only [Nat.sub_zero] at hu hlt
  rw [Array.getD_eq_getD_getElem?, Array.getElem?_append_left (by simpa using hlt)]
  simp only [List.getElem?_toArray, hu, Option.getD_some]
  exact k
theorem vc_of {P : Program} {f : FuncId} {fn : Func} {c : Code} {B : Nat} {vs : List V} {st : List E} {nb : Nat} {Q : RC → List E → Nat → Prop} (hf : P.funcs[f]? = some fn) (hb : fn.body = some c) {N : Nat} (hN : fn.ntmps = N) {rs : List ResultVar} (hrs0 : fn.results = rs.toArray)
    (h : ∀ M, VW P ⟨N, none, B, nb, some M, []⟩ c ⟨argsT 0 vs, st, nb⟩ (retC P rs Q)) (hle : Nat.ble vs.length N = true := by rfl) (hname : (fn.name == "runtime.NumGoroutine") = false := by kernel_rfl) : VC P f B vs st nb Q := by
  refine ⟨callFunc_run hf hname (by rw [hb]; rfl), ?_⟩
  have hrs : fn.results.toList = rs := by rw [hrs0]
  intro g w us hs hi hus
  rw [← callsIn_wide (n := 0)]
  refine callsIn_of_wp_marks hf hb trivial ?_
  have hS : Sim ⟨N, none, B, nb, some w.heap.size, []⟩ g { tmps := us.toArray ++ Array.replicate (fn.ntmps - us.toArray.size) undef, defers := [] } w ⟨argsT 0 vs, st, nb⟩ := by
    rw [hN]; exact act_args hus hle hs hi ⟨(fun _ h => by first | (cases h; fail_if_success (focus skip)) | (cases h; exact Nat.le_refl _)), [], [], rfl, by simp, by simp, rfl⟩
  refine wpIn_mono (h w.heap.size 0 g w g _ w (Ext.refl _ _ _) hS) ?_
  rintro e a' w' ⟨g', s', e', hE, hS', he, hq⟩
  have hEv := Ext.evo hE hi
  obtain ⟨_, bs, rr, hds, hnd, hbs0, hrr⟩ := hS'.defers
  have hbs : ∀ b ∈ bs, g'.prot b ∧ w.heap.size ≤ b ∧ w'.heap[b]? = some (.deferred (some [])) := fun b hb => by
    obtain ⟨h1, ⟨m, h2, h3⟩, h4⟩ := hbs0 b hb
    cases h2; exact ⟨h1, h3, h4⟩
  simp only [DfL] at hrr
  rw [hrr, List.append_nil] at hds
  have hown : ∀ {w2}, Left bs w' w2 → ∀ b, g'.own b → w2.heap[b]? = w'.heap[b]? := fun hl b hb => hl.block b fun hm => (hbs b hm).1 hb
  have hret : (∃ vs, ResV P s' rs vs ∧ Q (.ret (packV vs)) s'.st s'.nb) →
      LeavesInM Fence.wide 0 P fn a'.tmps (fun e w' => ∃ g' st' nb' r, Evo B g w g' w' ∧ SimS B g' w' st' ∧ Inv B nb' g' w' ∧ vcrel B g' w' r e ∧ Q r st' nb') a'.defers .returning w' := by
    rintro ⟨vs, hv, hq⟩
    rw [hds]
    refine leaves_marks (by simp) bs w' hnd (fun b hb => (hbs b hb).2.2) fun w2 hl => ?_
    have C := left_cells hl fun b hb => (hbs b hb).2.2
    obtain ⟨u, h1, h2⟩ := ResV.all (fn := fn) hS' (hown hl) (by rw [hrs]; exact hv)
    simp only [LeavesIn]
    exact ⟨u, h1, g', s'.st, s'.nb, .ret (packV vs), left_evo hEv (fun _ h => hi.exlt h) hl (fun b hb => (hbs b hb).2.1), cells_simS C hS'.st, hS'.inv.evo (by rw [hl.size]; exact Nat.le_refl _), ⟨u, rfl, cells_vrep C h2⟩, hq⟩
  cases e' with
  | normal => simp only [erel] at he; subst he; exact hret hq
  | ret => simp only [erel] at he; subst he; exact hret hq
  | panic v =>
    obtain ⟨u, rfl, hu⟩ := he
    simp only [bodyPostM]
    rw [hds]
    refine leaves_marks (by simp) bs w' hnd (fun b hb => (hbs b hb).2.2) fun w2 hl => ?_
    have C := left_cells hl fun b hb => (hbs b hb).2.2
    simp only [LeavesIn]
    exact ⟨g', s'.st, s'.nb, .panic v, left_evo hEv (fun _ h => hi.exlt h) hl (fun b hb => (hbs b hb).2.1), cells_simS C hS'.st, hS'.inv.evo (by rw [hl.size]; exact Nat.le_refl _), ⟨u, rfl, cells_vrep C hu⟩, hq⟩
  | exit id => exact hq.elim
  | goto l => exact hq.elim

/-! ### the call -/
/-- what goes on behind the call -/
def contV (P : Program) (cx : Cx) (ops rest : List Oper) (t : Tmp) (tm : List (Nat × V)) (Q : VE → St → Prop) : RC → List E → Nat → Prop
  | .ret v, st, nb => VL P cx ops rest ⟨(t, v) :: tm, st, nb⟩ Q
  | .panic v, st, nb => Q (.panic v) ⟨tm, st, nb⟩
section
variable {P : Program} {cx : Cx} {s : St} {Q : VE → St → Prop} {ops rest : List Oper}
theorem vl_vc {t : Tmp} {x : Operand} {xs : Array Operand} {tys : Array TypeId} {ty : TypeId} {pos : String} {af : Array Edge} {gd : Option (Nat × Bool)} {v : V} {f : FuncId} {vs az : List V}
    (hx : evalV s x = some v) (hv : evalVs s xs.toList = some vs) (hf : fnV v vs = some (f, az)) (hc : VC P f cx.B az s.st s.nb (contV P cx ops rest t s.tm Q)) (hw : Wd ops s.tm gd) (ht : Nat.blt t cx.N = true) :
    VL P cx ops (⟨some t, .call { callee := .value x, args := xs, argTypes := tys }, ty, pos, af, gd⟩ :: rest) s Q := fun n g0 w0 g a w hE hS => by
  simp only [wplIn]
  rw [if_pos (Wd.wanted (o := ⟨some t, _, ty, pos, af, gd⟩) hS hw)]
  refine ⟨fun _ _ => trivial, ?_⟩
  rw [Oper.semAt_plain (FW cx.rd) _ _ (by intro c e; cases e)]
  obtain ⟨zs, hrun, hzs⟩ := call_run (P := P) (w := w) (dst := some t) (tys := tys) (ty := ty) (pos := pos) (af := af) (gd := gd) hc.1 hS hx hv hf
  rw [hrun, Oper.uponIn_enter]
  refine ⟨(fun h => by cases h), ?_⟩
  have hcall := hc.2 g w zs hS.st hS.inv hzs
  have hmem : ∀ (r : Ending → World → Prop), Calls P f zs.toArray w r → CallsIn (FW cx.rd) (n - 1) P f zs.toArray w r := fun r h =>
    ⟨trivial, fun cs _ => by
      obtain ⟨e, w', fr, hr, hcm, hx⟩ := h cs
      refine ⟨e, w', fr, hr, ?_, hx⟩
      have := comesIn_wide.2 hcm
      cases e with
      | returned v => exact StepsIn.mono (fun m _ => fenced_FW P cx.rd m) this
      | panicked ch => exact StepsIn.mono (fun m _ => fenced_FW P cx.rd m) this
      | outgrown => exact this⟩
  refine (hmem _ hcall).mono ?_
  rintro e w' ⟨g', st', nb', r, k1, k2, k3, k4, k5⟩
  cases r with
  | ret v =>
    obtain ⟨u, rfl, hu⟩ := k4
    exact k5 n g0 w0 g' _ w' (hE.trans k1) (hS.put k1 (Nat.le_of_ble_eq_true ht) k2 k3 hu)
  | panic v =>
    obtain ⟨u, rfl, hu⟩ := k4
    exact ⟨g', _, .panic v, hE.trans k1, hS.same k1 k2 k3, ⟨u, rfl, hu⟩, k5⟩
theorem vs_vc {t : Tmp} {x : Operand} {xs : Array Operand} {tys : Array TypeId} {ty : TypeId} {pos : String} {af : Array Edge} {gd : Option (Nat × Bool)} {v : V} {f : FuncId} {vs az : List V} {tm : List (Nat × V)} {st : List E} {nb : Nat}
    (hx : evalV ⟨tm, st, nb⟩ x = some v := by rfl) (hv : evalVs ⟨tm, st, nb⟩ xs.toList = some vs := by rfl) (hf : fnV v vs = some (f, az) := by rfl) (hc : VC P f cx.B az st nb (contV P cx ops rest t tm Q)) (hw : Wd ops tm gd := by first | exact trivial | exact wd_of rfl rfl (by with_reducible rfl)) (ht : Nat.blt t cx.N = true := by rfl) :
    VL P cx ops (⟨some t, .call { callee := .value x, args := xs, argTypes := tys }, ty, pos, af, gd⟩ :: rest) ⟨tm, st, nb⟩ Q := vl_vc hx hv hf hc hw ht

def packO : List V → Option V
  | [v] => some v
  | [] => some (.tup [])
  | a :: b :: l => some (.tup (a :: b :: l))
theorem packO_spec : ∀ {l : List V} {v : V}, packO l = some v → packV l = v
  | [], v, h => by simp only [packO, Option.some.injEq] at h; rw [← h]; rfl
  | [x], v, h => by simp only [packO, Option.some.injEq] at h; rw [← h]; rfl
  | _ :: _ :: _, v, h => by simp only [packO, Option.some.injEq] at h; rw [← h]; rfl
variable {tm : List (Nat × V)} {st : List E} {nb : Nat}
theorem rc_id {rs : List ResultVar} {K : RC → List E → Nat → Prop} (h : retC P rs K .ret s) : retC P rs K .ret s := h
theorem rc_ret {rs : List ResultVar} {K : RC → List E → Nat → Prop} {vs : List V} {v : V} (k : K (.ret v) st nb)
    (h : ResV P ⟨tm, st, nb⟩ rs vs := by repeat' (first | exact ResV.nil | (apply ResV.tmp; rfl) | (apply ResV.cell; infer_instance; rfl; rfl) | (apply ResV.cells; infer_instance; rfl; rfl))) (hp : packO vs = some v := by rfl) : retC P rs K .ret ⟨tm, st, nb⟩ := ⟨vs, h, by rw [packO_spec hp]; exact k⟩
theorem rc_n {K : RC → List E → Nat → Prop} (k : K (.ret (.tup [])) st nb) : retC P [] K .normal ⟨tm, st, nb⟩ := ⟨[], .nil, k⟩
theorem rc_pan {rs : List ResultVar} {K : RC → List E → Nat → Prop} {v : V} (k : K (.panic v) st nb) : retC P rs K (.panic v) ⟨tm, st, nb⟩ := k
theorem nx_cont {t : Tmp} {v : V} (h : VL P cx ops rest ⟨(t, v) :: tm, st, nb⟩ Q) : contV P cx ops rest t tm Q (.ret v) st nb := h
theorem nx_contp {t : Tmp} {v : V} (h : Q (.panic v) ⟨tm, st, nb⟩) : contV P cx ops rest t tm Q (.panic v) st nb := h
end

end Go.Proofs.Ytjfaihpiohccbaa

namespace Go.Proofs.Ytjfaihpiohccbaa
open Go.RowKit

/-- what 'recover' tells -/
def recV : Option V → V
  | none => .d (.lit .nilIface)
  | some v => v
/-- called on the way out, with what was thrown, it catches that -/
def VDf (P : Program) (f : FuncId) (B : Nat) (vs : List V) (rv : Option V) (st : List E) (nb : Nat) (K : List E → Nat → Prop) : Prop :=
  (∀ args w, (callFunc f args).run P w = .ok (.enter f args) w) ∧ ∀ (g : G) (w : World) (us : List Value) (u : FrameMode), SimS B g w st → Inv B nb g w → vreps B g w vs us →
    ((rv = none ∧ u = .returning) ∨ ∃ v x, rv = some v ∧ u = .panicking [{ v := x, recovered := false }] ∧ vrep B g w v x) →
    CallsDIn Fence.wide 0 P f us.toArray u w fun e u' w' => ∃ x g' st' nb', e = .returned x ∧ settle u' = .returning ∧ Evo B g w g' w' ∧ SimS B g' w' st' ∧ Inv B nb' g' w' ∧ K st' nb'

def endV (K : List E → Nat → Prop) : VE → St → Prop
  | .normal, s | .ret, s => K s.st s.nb
  | _, _ => False
theorem vdf_of {P : Program} {f : FuncId} {fn : Func} {id d d2 : Nat} {tys1 : Array TypeId} {ty1 ty2 : TypeId} {pos1 pos2 : String} {af1 af2 : Array Edge} {c2 : Code} {B : Nat} {vs : List V} {rv : Option V} {st : List E} {nb : Nat} {K : List E → Nat → Prop} (hf : P.funcs[f]? = some fn)
    (hb : fn.body = some (.seq (.region id #[⟨some d, .call { callee := .builtin .recover, args := #[], argTypes := tys1 }, ty1, pos1, af1, none⟩, ⟨some d2, .assign (.tmp d), ty2, pos2, af2, none⟩] false) c2)) {N : Nat} (hN : fn.ntmps = N) (hrs0 : fn.results = #[])
    (h : VW P ⟨N, none, B, nb, none, []⟩ c2 ⟨(d2, recV rv) :: (d, recV rv) :: argsT 0 vs, st, nb⟩ (endV K)) (hle : Nat.ble vs.length N = true := by rfl) (hd : Nat.blt d N = true := by rfl) (hd2 : Nat.blt d2 N = true := by rfl) (hname : (fn.name == "runtime.NumGoroutine") = false := by kernel_rfl) : VDf P f B vs rv st nb K := by
  refine ⟨callFunc_run hf hname (by rw [hb]; rfl), fun g w us u hs hi hus hu => ?_⟩
  refine callsDIn_of_wpSIn hf hb trivial fun c₀ cs hm => ?_
  have hS0 : Sim ⟨N, none, B, nb, none, []⟩ g { tmps := us.toArray ++ Array.replicate (fn.ntmps - us.toArray.size) undef, defers := [] } w ⟨argsT 0 vs, st, nb⟩ := by
    rw [hN]; exact act_args hus hle hs hi ⟨(fun _ h => by first | (cases h; fail_if_success (focus skip)) | (cases h; exact Nat.le_refl _)), [], [], rfl, by simp, by simp, rfl⟩
  have hd := Nat.le_of_ble_eq_true hd
  have hd2 := Nat.le_of_ble_eq_true hd2
  apply wpSIn_seq
  apply wpSIn_region
  generalize hat : ({ tmps := us.toArray ++ Array.replicate (fn.ntmps - us.toArray.size) undef, defers := [] } : Act) = at0 at hS0
  obtain ⟨x, u', hx, hset, hrec⟩ : ∃ x u', vrep B g w (recV rv) x ∧ settle u' = .returning ∧ ((recoverD (c₀ :: cs) = none ∧ x = .nilIface ∧ u' = u) ∨ recoverD (c₀ :: cs) = some (x, { c₀ with mode := u' } :: cs)) := by
    rcases hu with ⟨rfl, rfl⟩ | ⟨v, x, rfl, rfl, hx⟩
    · exact ⟨.nilIface, .returning, by simp only [recV, vrep, drep], rfl, .inl ⟨by simp [recoverD, hm], rfl, rfl⟩⟩
    · exact ⟨x, .panicking [{ v := x, recovered := true }], hx, rfl, .inr (by simp [recoverD, hm])⟩
  have key : ∀ cs', cs' = { c₀ with mode := u' } :: cs → c2.wpSIn Fence.wide 0 P (bodyPostS P fn c₀ cs fun e u' w' => ∃ x g' st' nb', e = .returned x ∧ settle u' = .returning ∧ Evo B g w g' w' ∧ SimS B g' w' st' ∧ Inv B nb' g' w' ∧ K st' nb') ((at0.put (some d) x).put (some d2) x) cs' w := by
    rintro cs' rfl
    refine wpSIn_of_wpIn rfl ?_
    have hS1 := hS0.put (Evo.refl _ _ _) (d := d) hd hs hi hx
    have hS2 := hS1.put (Evo.refl _ _ _) (d := d2) hd2 hs hi hx
    refine wpIn_mono (h 0 g w g _ w (Ext.refl _ _ _) hS2) ?_
    rintro e a' w' ⟨g', s', e', hE, hS', he, hq⟩
    have hEv := Ext.evo hE hi
    obtain ⟨_, bs, rr, hds, _, hbs, hrr⟩ := hS'.defers
    simp only [DfL] at hrr
    have hbe : bs = [] := by
      cases bs with
      | nil => rfl
      | cons b bs => obtain ⟨_, ⟨m, hm, _⟩, _⟩ := hbs b (by simp); cases hm
    have hd0 : a'.defers = [] := by rw [hds, hbe, hrr]; rfl
    have hres : (results fn a'.tmps).run P w' = .ok (.tuple #[]) w' := by simp [results, hrs0]
    cases e' with
    | normal => simp only [erel] at he; subst he; exact ⟨hd0, u', rfl, _, hres, _, g', _, _, rfl, hset, hEv, hS'.st, hS'.inv, hq⟩
    | ret => simp only [erel] at he; subst he; exact ⟨hd0, u', rfl, _, hres, _, g', _, _, rfl, hset, hEv, hS'.st, hS'.inv, hq⟩
    | panic v => exact hq.elim
    | exit id => exact hq.elim
    | goto l => exact hq.elim
  have hget : (at0.put (some d) x).tmps.getD d undef = x := getD_puts (by rw [hS0.size]; exact hd)
  have hr : List.range 2 = [0, 1] := rfl
  generalize (fun (e : Ending) (u' : FrameMode) (w' : World) => ∃ x g' st' nb', e = .returned x ∧ settle u' = .returning ∧ Evo B g w g' w' ∧ SimS B g' w' st' ∧ Inv B nb' g' w' ∧ K st' nb') = R at key ⊢
  have hF : ∀ f, Fence.wide.fn f = True := fun _ => rfl
  rcases hrec with ⟨h1, rfl, rfl⟩ | h1
  · have hc : ({ c₀ with mode := u' } : Frame) = c₀ := by rw [← hm]
    have := key (c₀ :: cs) (by rw [hc])
    simp [wpOpsSIn, hr, Region.wanted, execOp, resolve, invoke, builtin, hF, Act.eval, h1, Exit.thenS, hget]
    exact this
  · have := key _ rfl
    simp [wpOpsSIn, hr, Region.wanted, execOp, resolve, invoke, builtin, hF, Act.eval, h1, Exit.thenS, hget]
    exact this

/-! ### the function -/
def onlyN (K : St → Prop) (e : VE) (s : St) : Prop := e = .normal ∧ K s
def preV (P : Program) (cx : Cx) (ops rest : List Oper) (K : St → Prop) : VE → St → Prop
  | .normal, s => VL P cx ops rest s (onlyN K)
  | _, _ => False
def resK (P : Program) (rs : List ResultVar) (tm : List (Nat × V)) (Q : RC → List E → Nat → Prop) (st : List E) (nb : Nat) : Prop := ∃ vs, ResV P ⟨tm, st, nb⟩ rs vs ∧ Q (.ret (packV vs)) st nb
/-- what the rest of the body owes -/
def retT (P : Program) (B : Nat) (rs : List ResultVar) (f : FuncId) (ca : List V) (Q : RC → List E → Nat → Prop) : VE → St → Prop
  | .normal, s | .ret, s => VDf P f B ca none s.st s.nb (resK P rs s.tm Q)
  | .panic v, s => VDf P f B ca (some v) s.st s.nb (resK P rs s.tm Q)
  | _, _ => False
def tryK (P : Program) (N B nb M : Nat) (fd : FuncId) (x : Tmp) (c2 : Code) (rs : List ResultVar) (Q : RC → List E → Nat → Prop) (s2 : St) : Prop := ∃ ca, lookT x s2.tm = some (.fn (.func fd) [] ca) ∧ VW P ⟨N, none, B, nb, some M, [(fd, ca)]⟩ c2 s2 (retT P B rs fd ca Q)
theorem vc_tries {P : Program} {f fd : FuncId} {fn : Func} {r0 c2 : Code} {id x : Nat} {o1 : Oper} {tys : Array TypeId} {ty : TypeId} {pos : String} {af : Array Edge} {B : Nat} {vs : List V} {st : List E} {nb : Nat} {Q : RC → List E → Nat → Prop} (hf : P.funcs[f]? = some fn)
    (hb : fn.body = some (.seq r0 (.seq (.region id #[o1, ⟨none, .defer { callee := .value (.tmp x), args := #[], argTypes := tys }, ty, pos, af, none⟩] false) c2))) {N : Nat} (hN : fn.ntmps = N) {rs : List ResultVar} (hrs0 : fn.results = rs.toArray)
    (h : ∀ M, VW P ⟨N, none, B, nb, none, []⟩ r0 ⟨argsT 0 vs, st, nb⟩ (preV P ⟨N, none, B, nb, none, []⟩ [o1, ⟨none, .defer { callee := .value (.tmp x), args := #[], argTypes := tys }, ty, pos, af, none⟩] [o1] (tryK P N B nb M fd x c2 rs Q)))
    (hle : Nat.ble vs.length N = true := by rfl) (hname : (fn.name == "runtime.NumGoroutine") = false := by kernel_rfl) : VC P f B vs st nb Q := by
  refine ⟨callFunc_run hf hname (by rw [hb]; rfl), ?_⟩
  have hrs : fn.results.toList = rs := by rw [hrs0]
  intro g w us hs hi hus
  rw [← callsIn_wide (n := 0)]
  refine callsIn_of_wp_marks hf hb trivial ?_
  have hS : Sim ⟨N, none, B, nb, none, []⟩ g { tmps := us.toArray ++ Array.replicate (fn.ntmps - us.toArray.size) undef, defers := [] } w ⟨argsT 0 vs, st, nb⟩ := by
    rw [hN]; exact act_args hus hle hs hi ⟨(fun _ h => by first | (cases h; fail_if_success (focus skip)) | (cases h; exact Nat.le_refl _)), [], [], rfl, by simp, by simp, rfl⟩
  refine wpIn_seq (wpIn_mono (h w.heap.size 0 g w g _ w (Ext.refl _ _ _) hS) ?_)
  rintro e a1 w1 ⟨g1, s1, e1, hE1, hS1, he1, hq1⟩
  cases e1 with
  | exit id => exact hq1.elim
  | goto l => exact hq1.elim
  | ret => exact hq1.elim
  | panic v => exact hq1.elim
  | normal =>
  simp only [erel] at he1; subst he1
  refine wpIn_seq ?_
  have hops : ∀ (os : List Oper), (Code.region id #[o1, ⟨none, .defer { callee := .value (.tmp x), args := #[], argTypes := tys }, ty, pos, af, none⟩] false) = Code.region id [o1, ⟨none, .defer { callee := .value (.tmp x), args := #[], argTypes := tys }, ty, pos, af, none⟩].toArray false := fun _ => rfl
  rw [hops []]
  refine wpIn_region_l ?_
  have hq := hq1 0 g w g1 a1 w1 hE1 hS1
  -- first the one, then the deferred call
  have happ : ∀ {F : Fence} {n : Nat} {ops : Array Oper} {Q1 Q2 : Exit → Act → World → Prop} {o d : Oper} {a : Act} {w : World}, wplIn F n P ops Q1 [o] a w → (∀ e a' w', Q1 e a' w' → e = .normal ∧ wplIn F n P ops Q2 [d] a' w') → wplIn F n P ops Q2 [o, d] a w := fun {F n ops Q1 Q2 o d a w} h hm => by
    simp only [wplIn] at h hm ⊢
    have hm' : ∀ a' w', Q1 .normal a' w' → _ := fun a' w' h => (hm _ a' w' h).2
    split at h
    · rename_i hw
      rw [if_pos hw]
      unfold Oper.wpIn at h ⊢
      refine ⟨h.1, ?_⟩
      have h2 := h.2
      generalize (o.semAt F.round a.eval).run P w = r at *
      cases r with
      | ok x w' =>
        cases x <;> simp only [Oper.uponIn] at h2 ⊢ <;>
          first
            | exact hm' _ _ h2
            | exact ⟨h2.1, CallsIn.mono h2.2 (fun e w'' he => by cases e <;> first | exact hm' _ _ he | (have := (hm _ _ _ he).1; cases this) | (obtain ⟨_, _, he⟩ := he; have := (hm _ _ _ he).1; cases this))⟩
            | exact ⟨h2.1, RowsIn.mono h2.2 (fun _ _ he => hm' _ _ he)⟩
            | exact ⟨h2.1, RoundIn.mono h2.2 (fun e w'' he => by cases e <;> first | exact hm' _ _ he | (have := (hm _ _ _ he).1; cases this) | (obtain ⟨_, _, he⟩ := he; have := (hm _ _ _ he).1; cases this))⟩
      | halt x w' => cases x <;> simp only [Oper.uponIn] at h2 ⊢ <;> first | exact h2 | (have := (hm _ _ _ h2).1; cases this)
    · rename_i hw
      rw [if_neg hw]
      exact ⟨h.1, hm' _ _ h.2⟩
  refine happ hq ?_
  rintro e a2 w2 ⟨g2, s2, e2, hE2, hS2, he2, he3, ca, hca, hc2⟩
  subst he3
  simp only [erel] at he2
  refine ⟨he2, ?_⟩
  have hV := hS2.tm hca
  simp only [vrep, vreps] at hV
  obtain ⟨xs, ys, hV, rfl, hys⟩ := hV
  simp only [wplIn]
  rw [if_pos (by rfl)]
  refine ⟨fun _ _ => trivial, ?_⟩
  have hrun : (Oper.semAt Fence.wide.round a2.eval (⟨none, .defer { callee := .value (.tmp x), args := #[], argTypes := tys }, ty, pos, af, none⟩ : Oper)).run P w2 = .ok (.defer { target := .fn (.func fd) ys.toArray, args := #[] }) w2 := by
    rw [show Fence.wide.round = none from rfl, Oper.semAt_none]
    simp [execOp, resolve, Act.eval, hV, Deferred.ofValue]
  rw [hrun]
  simp only [Oper.uponIn]
  have hS3 : Sim ⟨N, none, B, nb, some w.heap.size, [(fd, ca)]⟩ g2 { (a2.put none undef) with defers := { target := .fn (.func fd) ys.toArray, args := #[] } :: a2.defers } w2 s2 := by
    obtain ⟨_, bs, r, e1, e2, e3, e4⟩ := hS2.defers
    simp only [DfL] at e4
    have hbe : bs = [] := by
      cases bs with
      | nil => rfl
      | cons b bs => obtain ⟨_, ⟨m, hm, _⟩, _⟩ := e3 b (by simp); cases hm
    subst hbe; subst e4
    refine ⟨hS2.size, hS2.tm, hS2.st, hS2.inv, ⟨fun _ h => by cases h; exact hE2.size, [], [_], by rw [e1]; rfl, by simp, by simp, ys, [], rfl, hys, rfl⟩⟩
  refine wpIn_mono (hc2 0 g w g2 _ w2 hE2 hS3) ?_
  rintro e a3 w3 ⟨g3, s3, e3, hE3, hS3', he3, hq3⟩
  have hEv := Ext.evo hE3 hi
  obtain ⟨_, bs, rr, hds, hnd, hbs0, us3, r3, hrr, hus3, hr3⟩ := hS3'.defers
  simp only [DfL] at hr3
  subst hr3
  have hbs : ∀ b ∈ bs, g3.prot b ∧ w.heap.size ≤ b ∧ w3.heap[b]? = some (.deferred (some [])) := fun b hb => by
    obtain ⟨h1, ⟨m, h2, h3⟩, h4⟩ := hbs0 b hb
    cases h2; exact ⟨h1, h3, h4⟩
  -- on the way out
  have hout : ∀ (rv : Option V) (u : FrameMode), u ≠ .run → ((rv = none ∧ u = .returning) ∨ ∃ v x, rv = some v ∧ u = .panicking [{ v := x, recovered := false }] ∧ vrep B g3 w3 v x) →
      VDf P fd B ca rv s3.st s3.nb (resK P rs s3.tm Q) →
      LeavesInM Fence.wide 0 P fn a3.tmps (fun e w' => ∃ g' st' nb' r, Evo B g w g' w' ∧ SimS B g' w' st' ∧ Inv B nb' g' w' ∧ vcrel B g' w' r e ∧ Q r st' nb') a3.defers u w3 := fun rv u hu hrv hV => by
    rw [hds, hrr]
    refine leaves_marksR hu bs w3 hnd (fun b hb => (hbs b hb).2.2) fun w4 hl => ?_
    have C := left_cells hl fun b hb => (hbs b hb).2.2
    have hEv4 := left_evo hEv (fun _ h => hi.exlt h) hl (fun b hb => (hbs b hb).2.1)
    have hi4 : Inv B s3.nb g3 w4 := hS3'.inv.evo (by rw [hl.size]; exact Nat.le_refl _)
    simp only [LeavesInM]
    refine ⟨hu, .inr ⟨fun _ => by simp_all [Fence.wide], .func fd, us3.toArray, fd, us3.toArray, rfl, ?_, fun _ _ => trivial, ?_⟩⟩
    · simp only [invoke, Array.empty_append]; exact hV.1 _ _
    · refine (hV.2 g3 w4 us3 u (cells_simS C hS3'.st) hi4 (cells_vreps C hus3) ?_).mono ?_
      · rcases hrv with h | ⟨v, x, h1, h2, h3⟩
        · exact .inl h
        · exact .inr ⟨v, x, h1, h2, cells_vrep C h3⟩
      · rintro e u' w5 ⟨x, g5, st5, nb5, rfl, hset, k1, k2, k3, vs5, k4, k5⟩
        simp only [hset]
        have hS5 : Sim ⟨N, none, B, nb, none, []⟩ g5 { a3 with defers := [] } w5 ⟨s3.tm, st5, nb5⟩ :=
          ⟨hS3'.size, fun hx => k1.vrep (cells_vrep C (hS3'.tm hx)), k2, k3, ⟨(fun _ h => by first | (cases h; fail_if_success (focus skip)) | (cases h; exact Nat.le_refl _)), [], [], rfl, by simp, by simp, rfl⟩⟩
        obtain ⟨u6, h1, h2⟩ := ResV.all (fn := fn) hS5 (fun _ _ => rfl) (by rw [hrs]; exact k4)
        simp only [LeavesIn]
        exact ⟨u6, h1, g5, st5, nb5, .ret (packV vs5), hEv4.trans k1, k2, k3, ⟨u6, rfl, h2⟩, k5⟩
  cases e3 with
  | normal => simp only [erel] at he3; subst he3; exact hout none .returning (by simp) (.inl ⟨rfl, rfl⟩) hq3
  | ret => simp only [erel] at he3; subst he3; exact hout none .returning (by simp) (.inl ⟨rfl, rfl⟩) hq3
  | panic v =>
    obtain ⟨u, rfl, hu⟩ := he3
    exact hout (some v) _ (by simp) (.inr ⟨v, u, rfl, rfl, hu⟩) hq3
  | exit id => exact hq3.elim
  | goto l => exact hq3.elim

section
variable {P : Program} {cx : Cx} {Q : RC → List E → Nat → Prop} {ops rest : List Oper} {tm : List (Nat × V)} {st : List E} {nb : Nat}
theorem nx_pre {K : St → Prop} {s : St} (h : VL P cx ops rest s (onlyN K)) : preV P cx ops rest K .normal s := h
theorem nx_only {K : St → Prop} {s : St} (h : K s) : onlyN K .normal s := ⟨rfl, h⟩
theorem nx_tryid {N B nb0 M : Nat} {fd : FuncId} {x : Tmp} {c2 : Code} {rs : List ResultVar} {s : St} (h : tryK P N B nb0 M fd x c2 rs Q s) : tryK P N B nb0 M fd x c2 rs Q s := h
theorem nx_try {N B nb0 M : Nat} {fd : FuncId} {x : Tmp} {c2 : Code} {rs : List ResultVar} {ca : List V} (k : VW P ⟨N, none, B, nb0, some M, [(fd, ca)]⟩ c2 ⟨tm, st, nb⟩ (retT P B rs fd ca Q)) (h : lookT x tm = some (.fn (.func fd) [] ca) := by rfl) : tryK P N B nb0 M fd x c2 rs Q ⟨tm, st, nb⟩ := ⟨ca, h, k⟩
theorem nx_rtr {B : Nat} {rs : List ResultVar} {fd : FuncId} {ca : List V} (h : VDf P fd B ca none st nb (resK P rs tm Q)) : retT P B rs fd ca Q .ret ⟨tm, st, nb⟩ := h
theorem nx_rtn {B : Nat} {rs : List ResultVar} {fd : FuncId} {ca : List V} (h : VDf P fd B ca none st nb (resK P rs tm Q)) : retT P B rs fd ca Q .normal ⟨tm, st, nb⟩ := h
theorem nx_rtp {B : Nat} {rs : List ResultVar} {fd : FuncId} {ca : List V} {v : V} (h : VDf P fd B ca (some v) st nb (resK P rs tm Q)) : retT P B rs fd ca Q (.panic v) ⟨tm, st, nb⟩ := h
theorem nx_endn {K : List E → Nat → Prop} (h : K st nb) : endV K .normal ⟨tm, st, nb⟩ := h
theorem nx_endr {K : List E → Nat → Prop} (h : K st nb) : endV K .ret ⟨tm, st, nb⟩ := h
theorem nx_resid {rs : List ResultVar} (h : resK P rs tm Q st nb) : resK P rs tm Q st nb := h
theorem nx_res {rs : List ResultVar} {vs : List V} {v : V} (k : Q (.ret v) st nb)
    (h : ResV P ⟨tm, st, nb⟩ rs vs := by repeat' (first | exact ResV.nil | (apply ResV.tmp; rfl) | (apply ResV.cell; infer_instance; rfl; rfl) | (apply ResV.cells; infer_instance; rfl; rfl))) (hp : packO vs = some v := by rfl) : resK P rs tm Q st nb := ⟨vs, h, by rw [packO_spec hp]; exact k⟩
end

end Go.Proofs.Ytjfaihpiohccbaa

namespace Go.Proofs.Ytjfaihpiohccbaa
open Go.RowKit

def scopeV (Q : VE → St → Prop) : VE → St → Prop
  | .goto _, _ => False
  | e, s => Q e s
theorem vw_scope {P : Program} {cx : Cx} {c : Code} {s : St} {Q : VE → St → Prop} (h : VW P cx c s (scopeV Q)) : VW P cx (.scope c) s Q := fun n g0 w0 g a w hE hS => by
  refine wpIn_scope_straight (wpIn_mono (h n g0 w0 g a w hE hS) ?_)
  rintro e a' w' ⟨g', s', e', k1, k2, k3, k4⟩
  cases e' with
  | normal => simp only [erel] at k3; subst k3; exact ⟨g', s', .normal, k1, k2, rfl, k4⟩
  | exit id => simp only [erel] at k3; subst k3; exact ⟨g', s', .exit id, k1, k2, rfl, k4⟩
  | goto id => exact k4.elim
  | ret => simp only [erel] at k3; subst k3; exact ⟨g', s', .ret, k1, k2, rfl, k4⟩
  | panic v => obtain ⟨u, rfl, k⟩ := k3; exact ⟨g', s', .panic v, k1, k2, ⟨u, rfl, k⟩, k4⟩
/-- what comes next -/
inductive NX : Prop → Prop
  | n1 {P cx ops s} {Q : VE → St → Prop} (h : Q .normal s) : NX (VL P cx ops [] s Q)
  | n2 {P cx id l s Q} (h : VL P cx l l s Q) : NX (VW P cx (.region id l.toArray false) s Q)
  | n3 {P cx c Q s} (h : VW P cx c s Q) : NX (thenV P cx c Q .normal s)
  | n4 {P cx s} {Q : VE → St → Prop} (h : Q .normal s) : NX (VW P cx .skip s Q)
  | n5 {P cx id x s Q} (h : VW P cx x s (blockV id Q)) : NX (VW P cx (.block id x) s Q)
  | n6 {P cx id s} {Q : VE → St → Prop} (h : Q (.exit id) s) : NX (VW P cx (.exit id) s Q)
  | n7 {i s} {Q : VE → St → Prop} (h : Q .normal s) : NX (blockV i Q .normal s)
  | n8 {P cx c i s} {Q : VE → St → Prop} (h : Q (.exit i) s) : NX (thenV P cx c Q (.exit i) s)
  | n9 {P cx c s} {Q : VE → St → Prop} (h : Q .ret s) : NX (thenV P cx c Q .ret s)
  | n10 {P cx c s v} {Q : VE → St → Prop} (h : Q (.panic v) s) : NX (thenV P cx c Q (.panic v) s)
  | n11 {i s} {Q : VE → St → Prop} (h : Q .ret s) : NX (blockV i Q .ret s)
  | n12 {i s v} {Q : VE → St → Prop} (h : Q (.panic v) s) : NX (blockV i Q (.panic v) s)
  | n13 {s} {K : St → Prop} {Q : VE → St → Prop} (h : K s) : NX (thenR K Q .normal s)
  | n14 {s i} {K : St → Prop} {Q : VE → St → Prop} (h : Q (.exit i) s) : NX (thenR K Q (.exit i) s)
  | n15 {s} {K : St → Prop} {Q : VE → St → Prop} (h : Q .ret s) : NX (thenR K Q .ret s)
  | n16 {s v} {K : St → Prop} {Q : VE → St → Prop} (h : Q (.panic v) s) : NX (thenR K Q (.panic v) s)
  | n17 {α : Type} {cx s i} {I : α → St} {T : α → Prop} {μ : α → Nat} {x : α} {Q : VE → St → Prop} (h : Q (.exit i) s) : NX (loopV cx I T μ x Q (.exit i) s)
  | n18 {α : Type} {cx s} {I : α → St} {T : α → Prop} {μ : α → Nat} {x : α} {Q : VE → St → Prop} (h : Q .ret s) : NX (loopV cx I T μ x Q .ret s)
  | n19 {α : Type} {cx s v} {I : α → St} {T : α → Prop} {μ : α → Nat} {x : α} {Q : VE → St → Prop} (h : Q (.panic v) s) : NX (loopV cx I T μ x Q (.panic v) s)
  | n20 {α : Type} {cx s i} {I : α → St} {T : α → Prop} {Q : VE → St → Prop} (h : Q (.exit i) s) : NX (cutV cx I T Q (.exit i) s)
  | n21 {α : Type} {cx s} {I : α → St} {T : α → Prop} {Q : VE → St → Prop} (h : Q .ret s) : NX (cutV cx I T Q .ret s)
  | n22 {α : Type} {cx s v} {I : α → St} {T : α → Prop} {Q : VE → St → Prop} (h : Q (.panic v) s) : NX (cutV cx I T Q (.panic v) s)
  | n23 {P cx c Q m s} (h : VW P cx c s (thenR (RV P cx c Q m) Q)) : NX (RV P cx c Q (m + 1) s)
  | n24 {P cx s} {Q : VE → St → Prop} (h : Q .ret s) : NX (VW P cx .ret s Q)
  | n25 {P tm st nb} {post : R → Prop} (k : post (.ret (.tup []))) : NX (retQ P [] post .normal ⟨tm, st, nb⟩)
  | n26 {P tm st nb} {post : R → Prop} (k : post (.ret (.tup []))) : NX (retQ P [] post .ret ⟨tm, st, nb⟩)
  | n27 {P cx ops rest t tm Q v st nb} (h : VL P cx ops rest ⟨(t, v) :: tm, st, nb⟩ Q) : NX (contV P cx ops rest t tm Q (.ret v) st nb)
  | n28 {P cx ops rest t tm v st nb} {Q : VE → St → Prop} (h : Q (.panic v) ⟨tm, st, nb⟩) : NX (contV P cx ops rest t tm Q (.panic v) st nb)
  | n29 {P tm st nb} {K : RC → List E → Nat → Prop} (k : K (.ret (.tup [])) st nb) : NX (retC P [] K .normal ⟨tm, st, nb⟩)
  | n30 {P rs tm st nb v} {K : RC → List E → Nat → Prop} (k : K (.panic v) st nb) : NX (retC P rs K (.panic v) ⟨tm, st, nb⟩)
  | n31 {P cx ops rest s} {K : St → Prop} (h : VL P cx ops rest s (onlyN K)) : NX (preV P cx ops rest K .normal s)
  | n32 {s} {K : St → Prop} (h : K s) : NX (onlyN K .normal s)
  | n33 {P B rs fd ca Q tm st nb} (h : VDf P fd B ca none st nb (resK P rs tm Q)) : NX (retT P B rs fd ca Q .ret ⟨tm, st, nb⟩)
  | n34 {P B rs fd ca Q tm st nb} (h : VDf P fd B ca none st nb (resK P rs tm Q)) : NX (retT P B rs fd ca Q .normal ⟨tm, st, nb⟩)
  | n35 {P B rs fd ca Q tm st nb v} (h : VDf P fd B ca (some v) st nb (resK P rs tm Q)) : NX (retT P B rs fd ca Q (.panic v) ⟨tm, st, nb⟩)
  | n36 {tm st nb} {K : List E → Nat → Prop} (h : K st nb) : NX (endV K .normal ⟨tm, st, nb⟩)
  | n37 {tm st nb} {K : List E → Nat → Prop} (h : K st nb) : NX (endV K .ret ⟨tm, st, nb⟩)
  | n38 {P tm st nb} {K : RC → List E → Nat → Prop} (k : K (.ret (.tup [])) st nb) : NX (retC P [] K .ret ⟨tm, st, nb⟩)
  | n39 {P cx l s} {Q : VE → St → Prop} (h : Q .normal s) : NX (VW P cx (.label l) s Q)
  | n40 {P cx c s} {Q : VE → St → Prop} (h : VW P cx c s (scopeV Q)) : NX (VW P cx (.scope c) s Q)
  | n41 {s} {Q : VE → St → Prop} (h : Q .normal s) : NX (scopeV Q .normal s)
  | n42 {s} {Q : VE → St → Prop} (h : Q .ret s) : NX (scopeV Q .ret s)
  | n43 {s i} {Q : VE → St → Prop} (h : Q (.exit i) s) : NX (scopeV Q (.exit i) s)
  | n44 {s v} {Q : VE → St → Prop} (h : Q (.panic v) s) : NX (scopeV Q (.panic v) s)
theorem NX.go {g : Prop} (h : NX g) : g := by
  cases h with
  | n1 h => exact vl_nil h
  | n2 h => exact vw_region h
  | n4 h => exact vw_skip h
  | n5 h => exact vw_block h
  | n6 h => exact vw_exit h
  | n24 h => exact vw_ret h
  | n25 k => exact rt_n k
  | n26 k => exact rt_nr k
  | n29 k => exact rc_n k
  | n32 h => exact nx_only h
  | n38 k => exact ⟨[], .nil, k⟩
  | n39 h => exact vw_label h
  | n40 h => exact vw_scope h
  | _ h => exact h

/-- one operation's step -/
def StpL (P : Program) (cx : Cx) (ops : List Oper) (o : Oper) (s s' : St) : Prop := ∀ rest Q, VL P cx ops rest s' Q → VL P cx ops (o :: rest) s Q
section
variable {P : Program} {cx : Cx} {tm : List (Nat × V)} {st : List E} {nb : Nat} {s s' : St} {Q : VE → St → Prop} {ops rest : List Oper} {o : Oper} {d : Tmp} {op : Op} {ty : TypeId} {pos : String} {af : Array Edge} {gd : Option (Nat × Bool)}
theorem sx_q {v : V} (h : OpQ P cx op ty ⟨tm, st, nb⟩ v := by first | ((with_reducible apply q_move); rfl) | ((with_reducible apply q_assign); rfl) | ((with_reducible apply q_load) <;> rfl) | ((with_reducible apply q_fldp); rfl) | ((with_reducible apply q_loade) <;> rfl) | ((with_reducible apply q_loades) <;> (first | rfl | assumption)) | ((with_reducible apply q_loads) <;> rfl) | ((with_reducible apply q_flde); rfl) | ((with_reducible apply q_fldr); rfl) | ((with_reducible apply q_eq) <;> rfl) | ((with_reducible apply q_ne) <;> rfl) | ((with_reducible apply q_lt) <;> rfl) | ((with_reducible apply q_le) <;> rfl) | ((with_reducible apply q_gt) <;> rfl) | ((with_reducible apply q_ge) <;> rfl) | ((with_reducible apply q_nott); exact ev_of rfl (by with_reducible rfl)) | ((with_reducible apply q_notf); exact ev_of rfl (by with_reducible rfl)) | ((with_reducible apply q_not); rfl) | ((with_reducible apply q_pickt); exact ev_of rfl (by with_reducible rfl); rfl) | ((with_reducible apply q_pickf); exact ev_of rfl (by with_reducible rfl); rfl) | ((with_reducible apply q_nilp); rfl) | ((with_reducible apply q_nile); rfl) | ((with_reducible apply q_nilr); rfl) | ((with_reducible apply q_nilf); rfl) | ((with_reducible apply q_add); rfl; rfl; (simp only [inK]; omega)) | ((with_reducible apply q_sub); rfl; rfl; (simp only [inK]; omega)) | ((with_reducible apply q_mul); rfl; rfl; (simp only [inK]; omega)) | ((with_reducible apply q_len) <;> rfl) | ((with_reducible apply q_min) <;> rfl) | ((with_reducible apply q_max) <;> rfl) | ((with_reducible apply q_ext) <;> rfl) | ((with_reducible apply q_extd) <;> rfl) | ((with_reducible apply q_mkf) <;> rfl) | ((with_reducible apply q_mki); rfl) | ((with_reducible apply q_idxp); rfl; rfl; omega; omega) | ((with_reducible apply q_idx); rfl; rfl; rfl; omega; (first | rfl | assumption); (first | rfl | assumption)) | ((with_reducible apply q_idxr); rfl; rfl; rfl; omega; omega) | ((with_reducible apply q_loadr); rfl; rfl; (first | rfl | assumption); rfl) | ((with_reducible apply q_loadrs); rfl; rfl; (first | rfl | assumption); exact Nat.le_of_ble_eq_true rfl) | ((with_reducible apply q_build) <;> rfl) | ((with_reducible apply q_builda) <;> rfl) | ((with_reducible apply q_slicep) <;> rfl) | ((with_reducible apply q_slicee) <;> rfl) | ((with_reducible apply q_slice); rfl; rfl; rfl; rfl; (first | exact Int.le_refl _ | omega | (simp only [Option.getD]; omega)); (simp only [Option.getD]; omega); (first | exact Int.le_refl _ | (simp only [Option.getD]; omega)); (first | assumption | (simp; fail_if_success (focus skip)))) | ((with_reducible apply q_slicerv); rfl; rfl; rfl; rfl; (first | exact Int.le_refl _ | omega); (first | exact Int.le_refl _ | omega)) | ((with_reducible apply q_slice3); rfl; rfl; rfl; rfl; rfl; (first | exact Int.le_refl _ | (simp only [Option.getD]; omega)); (simp only [Option.getD]; omega); (first | exact Int.le_refl _ | omega); (first | assumption | (simp; fail_if_success (focus skip)))) | ((with_reducible apply q_index); rfl; rfl; rfl; rfl; omega; omega; (first | rfl | assumption)) | ((with_reducible apply q_field) <;> rfl) | ((with_reducible apply q_fields) <;> rfl) | ((with_reducible apply q_neit) <;> rfl) | ((with_reducible apply q_neif) <;> rfl) | ((with_reducible apply q_eqit) <;> rfl) | ((with_reducible apply q_eqif) <;> rfl) | ((with_reducible apply q_ta) <;> rfl) | ((with_reducible apply q_ta1) <;> rfl) | ((with_reducible apply q_eqb) <;> rfl) | ((with_reducible apply q_neb) <;> rfl) | ((with_reducible apply q_bstr); rfl; (first | exact .sl | exact .nil)) | ((with_reducible apply q_eqs) <;> rfl) | ((with_reducible apply q_nes) <;> rfl) | ((with_reducible apply q_convi); rfl; (simp only [inK]; omega)) | ((with_reducible apply q_convw); rfl) | ((with_reducible apply q_bini); rfl; rfl; exact fun _ => rfl) | ((with_reducible apply q_un); rfl; exact fun _ => rfl))
    (hw : Wd ops tm gd := by first | exact trivial | exact wd_of rfl rfl (by with_reducible rfl)) (hd : Nat.blt d cx.N = true := by rfl) (hn : noDefer op = true := by rfl) : StpL P cx ops ⟨some d, op, ty, pos, af, gd⟩ ⟨tm, st, nb⟩ ⟨(d, v) :: tm, st, nb⟩ := fun _ _ k => vl_q h hw hd hn k
theorem sx_r {v : V} {e : E} (h : OpR P cx op ty tm st v nb e := by first | (with_reducible apply r_alloc) | ((with_reducible apply r_box) <;> rfl) | ((with_reducible apply r_bs) <;> rfl) | ((with_reducible apply r_make); rfl; rfl; omega; omega; decide; rfl) | ((with_reducible apply r_appn); rfl; rfl; (first | exact .row rfl | exact .nil | exact .sl (by first | assumption | (simp; fail_if_success (focus skip)))); (first | omega | (simp; omega)); decide) | ((with_reducible apply r_appc); rfl; (first | exact .rv rfl (Nat.le_refl _) | exact .rv rfl (by omega) | exact .sl (by first | assumption | (simp; fail_if_success (focus skip)))); rfl; (first | exact .row rfl | exact .sl (by first | assumption | (simp; fail_if_success (focus skip)))); (first | omega | simp); (first | omega | (simp; omega)); decide))
    (hw : Wd ops tm gd := by first | exact trivial | exact wd_of rfl rfl (by with_reducible rfl)) (hd : Nat.blt d cx.N = true := by rfl) (hn : noDefer op = true := by rfl) : StpL P cx ops ⟨some d, op, ty, pos, af, gd⟩ ⟨tm, st, nb⟩ ⟨(d, v) :: tm, e :: st, nb + 1⟩ := fun _ _ k => vl_v h.v hw hd hn k
theorem sx_v {v : V} {st' : List E} {nb' : Nat} (h : OpV P cx op ty ⟨tm, st, nb⟩ v st' nb' := by
      first
        | ((with_reducible apply v_copy'); rfl; rfl; rfl; (first | exact .row rfl | exact .nil | exact .sl (by first | assumption | (simp; fail_if_success (focus skip)))); (first | rfl | (simp; fail_if_success (focus skip))))
        | ((with_reducible apply v_app'); rfl; rfl; rfl; (first | exact .row rfl | exact .nil | exact .sl (by first | assumption | (simp; fail_if_success (focus skip)))); (first | omega | (simp; omega)); decide))
    (hw : Wd ops tm gd := by first | exact trivial | exact wd_of rfl rfl (by with_reducible rfl)) (hd : Nat.blt d cx.N = true := by rfl) (hn : noDefer op = true := by rfl) : StpL P cx ops ⟨some d, op, ty, pos, af, gd⟩ ⟨tm, st, nb⟩ ⟨(d, v) :: tm, st', nb'⟩ := fun _ _ k => vl_v h hw hd hn k
theorem sx_u {st' : List E} {nb' : Nat} (h : OpU P cx op ty ⟨tm, st, nb⟩ st' nb' := by
      first
        | ((with_reducible apply u_store') <;> rfl)
        | ((with_reducible apply u_storer'); rfl; rfl; (first | rfl | assumption); rfl; rfl; rfl; rfl; rfl))
    (hw : Wd ops tm gd := by first | exact trivial | exact wd_of rfl rfl (by with_reducible rfl)) (hn : noDefer op = true := by rfl) : StpL P cx ops ⟨none, op, ty, pos, af, gd⟩ ⟨tm, st, nb⟩ ⟨tm, st', nb'⟩ := fun _ _ k => vl_u h hw hn k
theorem sx_skip {j : Nat} {b : Bool} {t : Nat} {v : V} (h1 : (ops[j]?).bind (·.dst) = some t := by rfl) (h2 : lookT t tm = some v := by rfl) (hc : SkipB b v := by first | ((with_reducible apply SkipB.tf); with_reducible rfl) | ((with_reducible apply SkipB.ft); with_reducible rfl)) (hd : Nat.blt d cx.N = true := by rfl) :
    StpL P cx ops ⟨some d, op, ty, pos, af, some (j, b)⟩ ⟨tm, st, nb⟩ ⟨(d, .d (.lit undef)) :: tm, st, nb⟩ := fun _ _ k => let ⟨_, e, hc⟩ := hc.of; vl_skip h1 (h2.trans (congrArg some e)) hc hd k
theorem sx_skipu {j : Nat} {b : Bool} {t : Nat} (h1 : (ops[j]?).bind (·.dst) = some t := by rfl) (h2 : lookT t tm = some (.d (.lit undef)) := by rfl) (hd : Nat.blt d cx.N = true := by rfl) :
    StpL P cx ops ⟨some d, op, ty, pos, af, some (j, b)⟩ ⟨tm, st, nb⟩ ⟨(d, .d (.lit undef)) :: tm, st, nb⟩ := fun _ _ k => vl_skipu h1 h2 hd k
/-- one step, whatever it is -/
theorem vs_x (k : VL P cx ops rest s' Q) (h : StpL P cx ops o s s' := by first | exact sx_q | exact sx_u | exact sx_r | exact sx_v | exact sx_skip | exact sx_skipu) : VL P cx ops (o :: rest) s Q := h _ _ k

/-! ### calls -/
def CallS (P : Program) (cx : Cx) (ops : List Oper) (o : Oper) (s s' : St) (f : FuncId) (ds : List D) (post : R → Prop) : Prop := VP P f ds post → StpL P cx ops o s s'
section
variable {t : Tmp} {x : Operand} {f : FuncId} {xs : Array Operand} {tys : Array TypeId} {v : V} {vs az : List V} {ds' ds : List D} {dd : D}
theorem sc_ret (hx : evalV ⟨tm, st, nb⟩ x = some v := by rfl) (hv : evalVs ⟨tm, st, nb⟩ xs.toList = some vs := by rfl) (hf : fnV v vs = some (f, az) := by rfl) (ha : AD st az ds' := by first | exact ad_of rfl | ((repeat' (first | exact ad_nil | exact ad_map | ((apply ad_cons); rfl))); fail_if_success (focus skip))) (hd : DLs ds' ds := by ((repeat' (first | exact dls_nil | with_reducible apply dls_cons | with_reducible exact dl_lit _ | with_reducible exact dl_lf _ | infer_instance | with_reducible apply dl_agg | with_reducible apply dl_ifc | with_reducible apply dl_pt | with_reducible apply dl_fn | with_reducible apply dl_slr | assumption | apply dl_slr)); fail_if_success (focus skip))) (hw : Wd ops tm gd := by first | exact trivial | exact wd_of rfl rfl (by with_reducible rfl)) (ht : Nat.blt t cx.N = true := by rfl) :
    CallS P cx ops ⟨some t, .call { callee := .value x, args := xs, argTypes := tys }, ty, pos, af, gd⟩ ⟨tm, st, nb⟩ ⟨(t, .d dd) :: tm, st, nb⟩ f ds (· = .ret dd) := fun hc _ _ k => vl_ret hc hx hv hf ha hd hw ht k
theorem sc_own {e : TypeId} {sz : Nat} {l : List (List D)} (hx : evalV ⟨tm, st, nb⟩ x = some v := by rfl) (hv : evalVs ⟨tm, st, nb⟩ xs.toList = some vs := by rfl) (hf : fnV v vs = some (f, az) := by rfl) (ha : AD st az ds' := by first | exact ad_of rfl | ((repeat' (first | exact ad_nil | exact ad_map | ((apply ad_cons); rfl))); fail_if_success (focus skip))) (hd : DLs ds' ds := by ((repeat' (first | exact dls_nil | with_reducible apply dls_cons | with_reducible exact dl_lit _ | with_reducible exact dl_lf _ | infer_instance | with_reducible apply dl_agg | with_reducible apply dl_ifc | with_reducible apply dl_pt | with_reducible apply dl_fn | with_reducible apply dl_slr | assumption | apply dl_slr)); fail_if_success (focus skip))) (hw : Wd ops tm gd := by first | exact trivial | exact wd_of rfl rfl (by with_reducible rfl)) (ht : Nat.blt t cx.N = true := by rfl) :
    CallS P cx ops ⟨some t, .call { callee := .value x, args := xs, argTypes := tys }, ty, pos, af, gd⟩ ⟨tm, st, nb⟩ ⟨(t, .row nb 0) :: tm, .r true true nb 0 e sz l :: st, nb + 1⟩ f ds (· = .own e sz l) := fun hc _ _ k => vl_own hc hx hv hf ha hd hw ht k
theorem sc_lent (hx : evalV ⟨tm, st, nb⟩ x = some v := by rfl) (hv : evalVs ⟨tm, st, nb⟩ xs.toList = some vs := by rfl) (hf : fnV v vs = some (f, az) := by rfl) (ha : lendDs st 64 az = some ds' := by rfl) (hd : DLs ds' ds := by ((repeat' (first | exact dls_nil | with_reducible apply dls_cons | with_reducible exact dl_lit _ | with_reducible exact dl_lf _ | infer_instance | with_reducible apply dl_agg | with_reducible apply dl_ifc | with_reducible apply dl_pt | with_reducible apply dl_fn | with_reducible apply dl_slr | assumption | apply dl_slr)); fail_if_success (focus skip))) (hfl : NewD dd := by infer_instance) (hw : Wd ops tm gd := by first | exact trivial | exact wd_of rfl rfl (by with_reducible rfl)) (ht : Nat.blt t cx.N = true := by rfl) :
    CallS P cx ops ⟨some t, .call { callee := .value x, args := xs, argTypes := tys }, ty, pos, af, gd⟩ ⟨tm, st, nb⟩ ⟨(t, .d dd) :: tm, st, nb⟩ f ds (· = .ret dd) := fun hc _ _ k => vl_lent hc hx hv hf ha hd hfl hw ht (fun _ e => by cases e; exact k) (fun _ _ _ e => by cases e) (fun _ e => by cases e)
theorem sc_lento {e : TypeId} {sz : Nat} {l : List (List D)} (hx : evalV ⟨tm, st, nb⟩ x = some v := by rfl) (hv : evalVs ⟨tm, st, nb⟩ xs.toList = some vs := by rfl) (hf : fnV v vs = some (f, az) := by rfl) (ha : lendDs st 64 az = some ds' := by rfl) (hd : DLs ds' ds := by ((repeat' (first | exact dls_nil | with_reducible apply dls_cons | with_reducible exact dl_lit _ | with_reducible exact dl_lf _ | infer_instance | with_reducible apply dl_agg | with_reducible apply dl_ifc | with_reducible apply dl_pt | with_reducible apply dl_fn | with_reducible apply dl_slr | assumption | apply dl_slr)); fail_if_success (focus skip))) (hfl : NewLs l := by infer_instance) (hw : Wd ops tm gd := by first | exact trivial | exact wd_of rfl rfl (by with_reducible rfl)) (ht : Nat.blt t cx.N = true := by rfl) :
    CallS P cx ops ⟨some t, .call { callee := .value x, args := xs, argTypes := tys }, ty, pos, af, gd⟩ ⟨tm, st, nb⟩ ⟨(t, .row nb 0) :: tm, .r true true nb 0 e sz l :: st, nb + 1⟩ f ds (· = .own e sz l) := fun hc _ _ k => vl_lent hc hx hv hf ha hd hfl hw ht (fun _ e => by cases e) (fun _ _ _ e => by cases e; exact k) (fun _ e => by cases e)
end
theorem vs_call {f : FuncId} {ds : List D} {post : R → Prop} (hc : VP P f ds post) (k : VL P cx ops rest s' Q) (h : CallS P cx ops o s s' f ds post := by first | exact sc_ret | exact sc_own | exact sc_lent | exact sc_lento) : VL P cx ops (o :: rest) s Q := h hc _ _ k
end

/-! ### regions that draw their order -/
structure DrawOK (P : Program) (l : List Oper) (n : Nat) (hd tl : List Oper) : Prop where
  hB : drawB l n = true
  hm : P.follows .mixedOrders = true
  hsp : splitN n l = some (hd, tl)
theorem vw_drawx {P : Program} {cx : Cx} {l : List Oper} {Q : VE → St → Prop} {id n nb : Nat} {tm : List (Nat × V)} {st : List E} {hd tl : List Oper} (h : VD P cx l tm st st nb (dstL hd) Q hd tl 0 [] tm st nb) (hk : DrawOK P l n hd tl := by
    first | exact .mk (n := 1) (by decide +kernel) (by kernel_rfl) rfl | exact .mk (n := 2) (by decide +kernel) (by kernel_rfl) rfl | exact .mk (n := 3) (by decide +kernel) (by kernel_rfl) rfl | exact .mk (n := 4) (by decide +kernel) (by kernel_rfl) rfl | exact .mk (n := 5) (by decide +kernel) (by kernel_rfl) rfl | exact .mk (n := 6) (by decide +kernel) (by kernel_rfl) rfl | exact .mk (n := 7) (by decide +kernel) (by kernel_rfl) rfl | exact .mk (n := 8) (by decide +kernel) (by kernel_rfl) rfl | exact .mk (n := 9) (by decide +kernel) (by kernel_rfl) rfl | exact .mk (n := 10) (by decide +kernel) (by kernel_rfl) rfl | exact .mk (n := 11) (by decide +kernel) (by kernel_rfl) rfl | exact .mk (n := 12) (by decide +kernel) (by kernel_rfl) rfl | exact .mk (n := 13) (by decide +kernel) (by kernel_rfl) rfl | exact .mk (n := 14) (by decide +kernel) (by kernel_rfl) rfl | exact .mk (n := 15) (by decide +kernel) (by kernel_rfl) rfl | exact .mk (n := 16) (by decide +kernel) (by kernel_rfl) rfl | exact .mk (n := 17) (by decide +kernel) (by kernel_rfl) rfl | exact .mk (n := 18) (by decide +kernel) (by kernel_rfl) rfl | exact .mk (n := 19) (by decide +kernel) (by kernel_rfl) rfl | exact .mk (n := 20) (by decide +kernel) (by kernel_rfl) rfl | exact .mk (n := 21) (by decide +kernel) (by kernel_rfl) rfl | exact .mk (n := 22) (by decide +kernel) (by kernel_rfl) rfl | exact .mk (n := 23) (by decide +kernel) (by kernel_rfl) rfl | exact .mk (n := 24) (by decide +kernel) (by kernel_rfl) rfl | exact .mk (n := 25) (by decide +kernel) (by kernel_rfl) rfl | exact .mk (n := 26) (by decide +kernel) (by kernel_rfl) rfl | exact .mk (n := 27) (by decide +kernel) (by kernel_rfl) rfl | exact .mk (n := 28) (by decide +kernel) (by kernel_rfl) rfl | exact .mk (n := 29) (by decide +kernel) (by kernel_rfl) rfl | exact .mk (n := 30) (by decide +kernel) (by kernel_rfl) rfl | exact .mk (n := 31) (by decide +kernel) (by kernel_rfl) rfl | exact .mk (n := 32) (by decide +kernel) (by kernel_rfl) rfl | exact .mk (n := 33) (by decide +kernel) (by kernel_rfl) rfl | exact .mk (n := 34) (by decide +kernel) (by kernel_rfl) rfl | exact .mk (n := 35) (by decide +kernel) (by kernel_rfl) rfl | exact .mk (n := 36) (by decide +kernel) (by kernel_rfl) rfl | exact .mk (n := 37) (by decide +kernel) (by kernel_rfl) rfl | exact .mk (n := 38) (by decide +kernel) (by kernel_rfl) rfl | exact .mk (n := 39) (by decide +kernel) (by kernel_rfl) rfl | exact .mk (n := 40) (by decide +kernel) (by kernel_rfl) rfl) : VW P cx (.region id l.toArray true) ⟨tm, st, nb⟩ Q := vw_draw n hk.hB hk.hm hk.hsp h

/-- is it a call of f, as far as one sees at once? -/
def calF (f : FuncId) (o : Oper) : Bool := match o.op with
  | .call c => (match c.callee with
    | .value (.func g) => Nat.beq f g
    | .value _ => true
    | _ => false)
  | _ => false
theorem vq_l {P : Program} {cx : Cx} {ops rest : List Oper} {o : Oper} {s : St} {Q : VE → St → Prop} {f : FuncId} {ds : List D} {post : R → Prop} (_ : VP P f ds post) (h : VL P cx ops (o :: rest) s Q) (_ : calF f o = true := by rfl) : VL P cx ops (o :: rest) s Q := h
theorem vq_d {P : Program} {cx : Cx} {Q : VE → St → Prop} {l : List Oper} {tm0 : List (Nat × V)} {st0 stO : List E} {nb0 : Nat} {ds : List Nat} {hd tl : List Oper} {i : Nat} {acc : List Ac} {tm : List (Nat × V)} {st : List E} {nb : Nat} {o : Oper} {f : FuncId} {dd : List D} {post : R → Prop} (_ : VP P f dd post)
    (h : VD P cx l tm0 st0 stO nb0 ds Q (o :: hd) tl i acc tm st nb) (_ : calF f o = true := by rfl) : VD P cx l tm0 st0 stO nb0 ds Q (o :: hd) tl i acc tm st nb := h
end Go.Proofs.Ytjfaihpiohccbaa

namespace Go.Proofs.Ytjfaihpiohccbaa
open Go.RowKit

/-- called with these values, while this log is true, function f ends so; names below m stay what they are -/
def VMB (P : Program) (f : FuncId) (B m : Nat) (vs : List V) (st : List E) (nb : Nat) (K : RC → List E → Nat → Prop) : Prop :=
  (∀ args w, (callFunc f args).run P w = .ok (.enter f args) w) ∧ ∀ (g : G) (w : World) (us : List Value), SimS B g w st → Inv B nb g w → vreps B g w vs us →
    Calls P f us.toArray w fun e w' => ∃ g' st' nb' r, Ext m g w g' w' ∧ SimS B g' w' st' ∧ Inv B nb' g' w' ∧ vcrel B g' w' r e ∧ K r st' nb' ∧ m ≤ nb'
def VM (P : Program) (f : FuncId) (m : Nat) (vs : List V) (st : List E) (nb : Nat) (K : RC → List E → Nat → Prop) : Prop := ∀ B, VMB P f B m vs st nb K
theorem VMB.mono {P : Program} {f : FuncId} {B m : Nat} {vs : List V} {st : List E} {nb : Nat} {K K' : RC → List E → Nat → Prop} (h : VMB P f B m vs st nb K) (hq : ∀ r s n, K r s n → K' r s n) : VMB P f B m vs st nb K' :=
  ⟨h.1, fun g w us h1 h2 h3 => (h.2 g w us h1 h2 h3).mono fun _ _ ⟨g', s', n', r, k1, k2, k3, k4, k5, k6⟩ => ⟨g', s', n', r, k1, k2, k3, k4, hq _ _ _ k5, k6⟩⟩
theorem VM.mono {P : Program} {f : FuncId} {m : Nat} {vs : List V} {st : List E} {nb : Nat} {K K' : RC → List E → Nat → Prop} (h : VM P f m vs st nb K) (hq : ∀ r s n, K r s n → K' r s n) : VM P f m vs st nb K' := fun B => (h B).mono hq

/-! ### names -/
abbrev Rho := List (Nat × Option Nat)
/-- the caller's own, as the function sees it -/
def G.loc (g : G) (m : Nat) (ρ : Rho) : G :=
  ⟨fun b => g.own b ∧ ∀ i p, ρ[i]? = some p → (i < m → g.bx p.1 ≠ some b) ∧ g.rb p.1 ≠ some b,
   fun i => if i < m then (match ρ[i]? with | some p => g.bx p.1 | none => none) else none,
   fun i => match ρ[i]? with | some p => g.rb p.1 | none => none,
   fun i v => match ρ[i]? with | some (k, some v0) => if v = 0 then g.rw k v0 else none | _ => none⟩
theorem loc_own {g : G} {m : Nat} {ρ : Rho} {b : Nat} : (g.loc m ρ).own b ↔ g.own b := by
  constructor
  · rintro (h | ⟨i, h⟩ | ⟨i, h⟩)
    · exact h.1
    · simp only [G.loc] at h
      split at h
      · split at h
        · exact .inr (.inl ⟨_, h⟩)
        · cases h
      · cases h
    · simp only [G.loc] at h
      split at h
      · exact .inr (.inr ⟨_, h⟩)
      · cases h
  · intro h
    by_cases hx : ∀ i p, ρ[i]? = some p → (i < m → g.bx p.1 ≠ some b) ∧ g.rb p.1 ≠ some b
    · exact .inl ⟨h, hx⟩
    · obtain ⟨i, hx⟩ := Classical.not_forall.1 hx
      obtain ⟨p, hx⟩ := Classical.not_forall.1 hx
      have hp : ρ[i]? = some p := Classical.byContradiction fun hn => hx fun h => (hn h).elim
      by_cases h1 : g.rb p.1 = some b
      · exact .inr (.inr ⟨i, by simp only [G.loc, hp]; exact h1⟩)
      · have : i < m ∧ g.bx p.1 = some b := Classical.byContradiction fun hn => hx fun _ => ⟨fun hi e => hn ⟨hi, e⟩, h1⟩
        exact .inr (.inl ⟨i, by simp only [G.loc, hp, this.1, if_true]; exact this.2⟩)
theorem loc_prot {g : G} {m : Nat} {ρ : Rho} : (g.loc m ρ).prot = g.prot := by
  funext b
  simp only [G.prot, loc_own]

/-- what the function is told of a value -/
def VLe (m : Nat) (ρ : Rho) (st : List E) (vl vc : V) : Prop := ∀ B g w u, SimS B g w st → vrep B g w vc u → vrep B (g.loc m ρ) w vl u
def VLes (m : Nat) (ρ : Rho) (st : List E) (vl vc : List V) : Prop := ∀ B g w u, SimS B g w st → vreps B g w vc u → vreps B (g.loc m ρ) w vl u
section
variable {m : Nat} {ρ : Rho} {st : List E}
theorem vle_nil : VLes m ρ st [] [] := fun _ _ _ _ _ h => by simpa only [vreps] using h
theorem vle_cons {x y : V} {xs ys : List V} (h : VLe m ρ st x y) (hs : VLes m ρ st xs ys) : VLes m ρ st (x :: xs) (y :: ys) := fun B g w u k h2 => by
  simp only [vreps] at h2 ⊢
  obtain ⟨z, zs, e, k1, k2⟩ := h2
  exact ⟨z, zs, e, h _ _ _ _ k k1, hs _ _ _ _ k k2⟩
theorem vle_d {x y : D} {v : V} (h : argD st v = some y) (hd : DL y x) : VLe m ρ st (.d x) v := fun B g w u k hu => by
  have := argD_rep k h hu
  simp only [vrep, loc_prot]
  exact hd.le _ _ _ _ _ this
theorem vle_any {v : V} : VLe m ρ st (.d .any) v := fun B g w u _ _ => by simp only [vrep, drep]
theorem vle_dd {x : D} : VLe m ρ st (.d x) (.d x) := fun B g w u _ hu => by simp only [vrep, loc_prot] at hu ⊢; exact hu
theorem vle_ptr {i k off : Nat} (hi : Nat.blt i m = true) (h : (ρ[i]?).map (·.1) = some k) : VLe m ρ st (.ptr i off) (.ptr k off) := fun B g w u _ hu => by
  obtain ⟨p, hp, rfl⟩ := Option.map_eq_some_iff.1 h
  simp only [vrep] at hu ⊢
  obtain ⟨b, hb, e⟩ := hu
  exact ⟨b, by simp only [G.loc, hp]; rw [if_pos (blt_lt hi)]; exact hb, e⟩
theorem vle_row {i k v : Nat} (h : ρ[i]? = some (k, some v)) : VLe m ρ st (.row i 0) (.row k v) := fun B g w u _ hu => by
  simp only [vrep] at hu ⊢
  exact ⟨by simp only [G.loc, h]; exact hu.1, hu.2⟩
theorem vle_agg {xs ys : List V} (h : VLes m ρ st xs ys) : VLe m ρ st (.agg xs) (.agg ys) := fun B g w u k hu => by
  simp only [vrep] at hu ⊢
  obtain ⟨cs, e, hu⟩ := hu
  exact ⟨cs, e, h _ _ _ _ k hu⟩
theorem vle_ifc {t : TypeId} {x y : V} (h : VLe m ρ st x y) : VLe m ρ st (.ifc t x) (.ifc t y) := fun B g w u k hu => by
  simp only [vrep] at hu ⊢
  obtain ⟨cs, e, hu⟩ := hu
  exact ⟨cs, e, h _ _ _ _ k hu⟩
theorem vle_fn {f : Fn} {xs ys xs' ys' : List V} (h : VLes m ρ st xs ys) (h' : VLes m ρ st xs' ys') : VLe m ρ st (.fn f xs xs') (.fn f ys ys') := fun B g w u k hu => by
  simp only [vrep] at hu ⊢
  obtain ⟨a, b, e, k1, k2⟩ := hu
  exact ⟨a, b, e, h _ _ _ _ k k1, h' _ _ _ _ k k2⟩
theorem VLes.get {xs ys : List V} (h : VLes m ρ st xs ys) {B : Nat} {g : G} {w : World} (k : SimS B g w st) {us : List Value} (hu : vreps B g w ys us) : vreps B (g.loc m ρ) w xs us := h _ _ _ _ k hu
end

/-- the log that the function is told of is true of the caller's -/
def EntOk (m : Nat) (ρ : Rho) (st : List E) : List E → Prop
  | [] => True
  | .c i off vs :: r => (∃ k vs', Nat.blt i m = true ∧ (ρ[i]?).map (·.1) = some k ∧ cellsAt k off st vs.length = some vs' ∧ VLes m ρ st vs vs') ∧ EntOk m ρ st r
  | .r o nw i ver e sz l :: r => (ver = 0 ∧ ∃ k v, ρ[i]? = some (k, some v) ∧ rowAt k st = some (o, nw, v, e, sz, l)) ∧ EntOk m ρ st r
  | .y _ _ _ _ :: _ => False

section
variable {m B nb : Nat} {ρ : Rho} {st : List E} {g : G} {w : World}
theorem entOk_cell (hs : SimS B g w st) : ∀ {st0 : List E}, EntOk m ρ st st0 → ∀ {i off : Nat} {v : V}, cellAt i off st0 = some v → ∃ b rcs ty u, (g.loc m ρ).bx i = some b ∧ w.heap[b]? = some (.cells rcs ty (0, 0)) ∧ rcs[off]? = some u ∧ vrep B (g.loc m ρ) w v u
  | [], _, i, off, v, h => by simp [cellAt] at h
  | .c i' o' vs :: r, he, i, off, v, h => by
    simp only [cellAt] at h
    split at h
    · rename_i hi
      have := Nat.eq_of_beq_eq_true hi
      subst this
      split at h
      · rename_i ho
        have ho := Nat.le_of_ble_eq_true ho
        split at h
        · rename_i v' hv
          cases h
          obtain ⟨⟨k, vs', hm, hk, hc, hle⟩, _⟩ := he
          obtain ⟨p, hp, rfl⟩ := Option.map_eq_some_iff.1 hk
          have hlen := (List.getElem?_eq_some_iff.1 hv).1
          have hlen2 := cellsAt_len hc
          obtain ⟨y, hy⟩ : ∃ y, vs'[off - o']? = some y := ⟨_, List.getElem?_eq_getElem (by omega)⟩
          have h1 := cellsAt_get hc hy
          rw [show o' + (off - o') = off by omega] at h1
          obtain ⟨b, rcs, ty, u, m1, m2, m3, m4⟩ := hs.cell h1
          have hb : ∃ us, vreps B g w vs' us ∧ us[off - o']? = some u := by
            obtain ⟨us, q1, q2⟩ := cellsAt_rep hs m1 hc
            obtain ⟨z, hz, hz2⟩ := vreps_get q1 hy
            refine ⟨us, q1, ?_⟩
            obtain ⟨b', o2, e, _, e3⟩ := q2 _ _ hz
            cases e
            have : w.cell? ⟨b, o' + (off - o'), none⟩ = some u := by
              rw [show o' + (off - o') = off by omega, cell_of_row w b off rcs ty (0, 0) m2]; exact m3
            rw [this] at e3; cases e3
            exact hz
          obtain ⟨us, q1, q2⟩ := hb
          obtain ⟨z, hz, hz2⟩ := vreps_get (hle.get hs q1) hv
          rw [q2] at hz; cases hz
          exact ⟨b, rcs, ty, u, by simp only [G.loc, hp]; rw [if_pos (blt_lt hm)]; exact m1, m2, m3, hz2⟩
        · exact entOk_cell hs he.2 h
      · exact entOk_cell hs he.2 h
    · exact entOk_cell hs he.2 h
  | .r .. :: r, he, i, off, v, h => by
    simp only [cellAt] at h
    exact entOk_cell hs he.2 h
theorem entOk_loop : ∀ {st0 : List E}, EntOk m ρ st st0 → ∀ {i : Nat} {r}, loopAt i st0 = some r → False
  | [], _, i, r, h => by simp [loopAt] at h
  | .c .. :: _, he, i, r, h => by simp only [loopAt] at h; exact entOk_loop he.2 h
  | .r .. :: _, he, i, r, h => by simp only [loopAt] at h; exact entOk_loop he.2 h
theorem entOk_row : ∀ {st0 : List E}, EntOk m ρ st st0 → ∀ {i : Nat} {o nw ver e sz l}, rowAt i st0 = some (o, nw, ver, e, sz, l) → ver = 0 ∧ ∃ k v, ρ[i]? = some (k, some v) ∧ rowAt k st = some (o, nw, v, e, sz, l)
  | [], _, i, o, nw, ver, e, sz, l, h => by simp [rowAt] at h
  | .c .. :: r, he, i, o, nw, ver, e, sz, l, h => by
    simp only [rowAt] at h
    exact entOk_row he.2 h
  | .r .. :: r, he, i, o, nw, ver, e, sz, l, h => by
    simp only [rowAt] at h
    split at h
    · rename_i hb
      have := Nat.eq_of_beq_eq_true hb
      subst this
      cases h
      exact he.1
    · exact entOk_row he.2 h

def rhoOk (ρ : Rho) : Bool := decide (ρ.map (·.1)).Nodup
theorem rho_inj (h : rhoOk ρ = true) {i j : Nat} {p q : Nat × Option Nat} (hi : ρ[i]? = some p) (hj : ρ[j]? = some q) (e : p.1 = q.1) : i = j := by
  have hn : (ρ.map (·.1)).Nodup := by simpa [rhoOk] using h
  have h1 : (ρ.map (·.1))[i]? = some p.1 := by simp [hi]
  have h2 : (ρ.map (·.1))[j]? = some q.1 := by simp [hj]
  exact (List.getElem?_inj (List.getElem?_eq_some_iff.1 h1).1 hn).1 (by rw [h1, h2, e])

theorem loc_inv (h : Inv B nb g w) (hρ : rhoOk ρ = true) (hmn : m ≤ ρ.length) : Inv B ρ.length (g.loc m ρ) w := by
  have bxd : ∀ {i b}, (g.loc m ρ).bx i = some b → ∃ p, ρ[i]? = some p ∧ i < m ∧ g.bx p.1 = some b := fun {i b} h => by
    simp only [G.loc] at h
    split at h
    · rename_i hi
      split at h
      · rename_i p hp; exact ⟨p, hp, hi, h⟩
      · cases h
    · cases h
  have rbd : ∀ {i b}, (g.loc m ρ).rb i = some b → ∃ p, ρ[i]? = some p ∧ g.rb p.1 = some b := fun {i b} h => by
    simp only [G.loc] at h
    split at h
    · rename_i p hp; exact ⟨p, hp, h⟩
    · cases h
  refine ⟨fun {i b} hb => ?_, fun {i b} hb => ?_, fun {i j v} hb => ?_, fun {i j b} h1 h2 => ?_, fun {i j b} h1 h2 => ?_, fun {i j b} h1 h2 => ?_, fun {b} hb => ?_, fun {i b} hb he => ?_, fun {i b} hb he => ?_, h.base⟩
  · obtain ⟨p, hp, hi, k⟩ := bxd hb; exact ⟨(h.bxlt k).1, (List.getElem?_eq_some_iff.1 hp).1⟩
  · obtain ⟨p, hp, k⟩ := rbd hb; exact ⟨(h.rblt k).1, (List.getElem?_eq_some_iff.1 hp).1⟩
  · simp only [G.loc] at hb
    split at hb
    · rename_i hp; exact (List.getElem?_eq_some_iff.1 hp).1
    · cases hb
  · obtain ⟨p, hp, _, k⟩ := bxd h1; obtain ⟨q, hq, _, k'⟩ := bxd h2; exact rho_inj hρ hp hq (h.bxinj k k')
  · obtain ⟨p, hp, k⟩ := rbd h1; obtain ⟨q, hq, k'⟩ := rbd h2; exact rho_inj hρ hp hq (h.rbinj k k')
  · obtain ⟨p, hp, _, k⟩ := bxd h1; obtain ⟨q, hq, k'⟩ := rbd h2; exact h.apart k k'
  · rcases hb.1 with k | ⟨_, k⟩ | ⟨_, k⟩
    · exact h.exlt k
    · exact (h.bxlt k).1
    · exact (h.rblt k).1
  · obtain ⟨p, hp, hi, k⟩ := bxd hb; exact (he.2 i p hp).1 hi k
  · obtain ⟨p, hp, k⟩ := rbd hb; exact (he.2 i p hp).2 k
theorem loc_sim (hs : SimS B g w st) {st0 : List E} (he : EntOk m ρ st st0) : SimS B (g.loc m ρ) w st0 := by
  refine ⟨fun {i off v} hc => entOk_cell hs he hc, fun {i o nw ver e sz l} hr => ?_, fun hl => (entOk_loop he hl).elim⟩
  obtain ⟨rfl, k, v, hp, hr⟩ := entOk_row he hr
  obtain ⟨u, xs, r1, r2, r3, r4, r5⟩ := hs.row hr
  refine ⟨u, xs, by simp only [G.loc, hp]; exact r1, by rw [loc_prot]; exact r2, ⟨r3.1, r3.2.1, fun j x hx => ?_⟩, r4, ?_⟩
  · simp only [G.loc, hp] at hx
    split at hx
    · omega
    · cases hx
  · rcases r5 with ⟨e1, e2, e3⟩ | ⟨e1, e2, e3⟩
    · exact .inl ⟨e1, e2, by simp only [G.loc, hp]; exact e3⟩
    · exact .inr ⟨e1, by simp only [G.loc, hp]; exact e2, by rw [loc_prot]; exact e3⟩
end

/-! ### and back -/
def mapN (m nb : Nat) (ρ : Rho) (i : Nat) : Option Nat := match Nat.blt i m with
  | true => (match ρ[i]? with | some p => some p.1 | none => none)
  | false => some (nb + (i - m))
def mapR (m nb : Nat) (ρ : Rho) (i ver : Nat) : Option (Nat × Nat) := match Nat.blt i m with
  | true => (match ρ[i]? with | some (k, some v) => some (k, v + ver) | _ => none)
  | false => some (nb + (i - m), ver)
mutual
def mapV (m nb : Nat) (ρ : Rho) : V → Option V
  | .d x => some (.d x)
  | .ep l => some (.ep l)
  | .agg l => match mapVs m nb ρ l with
    | some r => some (.agg r)
    | none => none
  | .tup l => match mapVs m nb ρ l with
    | some r => some (.tup r)
    | none => none
  | .ptr i off => match mapN m nb ρ i with
    | some k => some (.ptr k off)
    | none => none
  | .sv i off n cap sz => match mapN m nb ρ i with
    | some k => some (.sv k off n cap sz)
    | none => none
  | .yl i => match mapN m nb ρ i with
    | some k => some (.yl k)
    | none => none
  | .rv i ver n => match mapR m nb ρ i ver with
    | some p => some (.rv p.1 p.2 n)
    | none => none
  | .row i ver => match mapR m nb ρ i ver with
    | some p => some (.row p.1 p.2)
    | none => none
  | .rp i ver sz a b => match mapR m nb ρ i ver with
    | some p => some (.rp p.1 p.2 sz a b)
    | none => none
  | .fn f fi ca => match mapVs m nb ρ fi with
    | some r => (match mapVs m nb ρ ca with
      | some q => some (.fn f r q)
      | none => none)
    | none => none
  | .ifc t x => match mapV m nb ρ x with
    | some r => some (.ifc t r)
    | none => none
def mapVs (m nb : Nat) (ρ : Rho) : List V → Option (List V)
  | [] => some []
  | x :: xs => match mapV m nb ρ x with
    | some y => (match mapVs m nb ρ xs with
      | some ys => some (y :: ys)
      | none => none)
    | none => none
end
/-- the function's log in the caller's names, ahead of what of the caller's log it was not told -/
def purgeE (ks : List Nat) : List E → Option (List E)
  | [] => some []
  | .y k lp T tm :: r => (match purgeE ks r with
    | some q => (match memB k ks with
      | true => some q
      | false => some (.y k lp T tm :: q))
    | none => none)
  | .c k off vs :: r => (match purgeE ks r with
    | some q => (match memB k ks with
      | true => some q
      | false => some (.c k off vs :: q))
    | none => none)
  | .r o nw k ver e sz l :: r => (match purgeE ks r with
    | some q => (match memB k ks with
      | true => some q
      | false => some (.r o nw k ver e sz l :: q))
    | none => none)
def mapEs (m nb : Nat) (ρ : Rho) (tail : List E) : List E → Option (List E)
  | [] => some tail
  | .y _ _ _ _ :: r => mapEs m nb ρ tail r
  | .c i off vs :: r => (match mapEs m nb ρ tail r with
    | some q => (match mapN m nb ρ i with
      | some k => (match mapVs m nb ρ vs with
        | some us => some (.c k off us :: q)
        | none => none)
      | none => none)
    | none => none)
  | .r o nw i ver e sz l :: r => (match mapEs m nb ρ tail r with
    | some q => (match mapR m nb ρ i ver with
      | some p => some (.r o nw p.1 p.2 e sz l :: q)
      | none => none)
    | none => none)

section
variable {m B nb nb1 : Nat} {ρ : Rho} {st : List E} {g g1 : G} {w w' : World}
theorem purge_cell {ks : List Nat} : ∀ {st r : List E}, purgeE ks st = some r → ∀ {k off : Nat} {v : V}, cellAt k off r = some v → k ∉ ks ∧ cellAt k off st = some v
  | [], r, h, k, off, v, hc => by simp only [purgeE, Option.some.injEq] at h; subst h; simp [cellAt] at hc
  | .c k' o' vs :: st, r, h, k, off, v, hc => by
    simp only [purgeE] at h
    split at h
    · rename_i q hq
      split at h
      · rename_i hm
        cases h
        obtain ⟨h1, h2⟩ := purge_cell hq hc
        refine ⟨h1, ?_⟩
        simp only [cellAt]
        split
        · rename_i hb
          have := Nat.eq_of_beq_eq_true hb
          subst this
          exact (h1 (memB_iff.1 hm)).elim
        · exact h2
      · rename_i hm
        cases h
        simp only [cellAt] at hc ⊢
        split at hc
        · rename_i hb
          have := Nat.eq_of_beq_eq_true hb
          subst this
          have hk : k ∉ ks := fun hk => by rw [memB_iff.2 hk] at hm; cases hm
          refine ⟨hk, ?_⟩
          split at hc
          · split at hc
            · exact hc
            · exact (purge_cell hq hc).2
          · exact (purge_cell hq hc).2
        · exact purge_cell hq hc
    · cases h
  | .r o nw k' ver e sz l :: st, r, h, k, off, v, hc => by
    simp only [purgeE] at h
    simp only [cellAt]
    split at h
    · rename_i q hq
      split at h
      · cases h; exact purge_cell hq hc
      · cases h; simp only [cellAt] at hc; exact purge_cell hq hc
    · cases h
  | .y k' lp T tm :: st, r, h, k, off, v, hc => by
    simp only [purgeE] at h
    simp only [cellAt]
    split at h
    · rename_i q hq
      split at h
      · cases h; exact purge_cell hq hc
      · cases h; simp only [cellAt] at hc; exact purge_cell hq hc
    · cases h
theorem purge_loop {ks : List Nat} : ∀ {st r : List E}, purgeE ks st = some r → ∀ {k : Nat} {lp}, loopAt k r = some lp → k ∉ ks ∧ loopAt k st = some lp
  | [], r, h, k, lp, hc => by simp only [purgeE, Option.some.injEq] at h; subst h; simp [loopAt] at hc
  | .r .. :: st, r, h, k, lp, hc => by
    simp only [purgeE] at h
    simp only [loopAt]
    split at h
    · rename_i q hq
      split at h
      · cases h; exact purge_loop hq hc
      · cases h; simp only [loopAt] at hc; exact purge_loop hq hc
    · cases h
  | .c .. :: st, r, h, k, lp, hc => by
    simp only [purgeE] at h
    simp only [loopAt]
    split at h
    · rename_i q hq
      split at h
      · cases h; exact purge_loop hq hc
      · cases h; simp only [loopAt] at hc; exact purge_loop hq hc
    · cases h
  | .y k' lp' T' tm' :: st, r, h, k, lp, hc => by
    simp only [purgeE] at h
    split at h
    · rename_i q hq
      split at h
      · rename_i hm
        cases h
        obtain ⟨h1, h2⟩ := purge_loop hq hc
        refine ⟨h1, ?_⟩
        simp only [loopAt]
        split
        · rename_i hb
          have := Nat.eq_of_beq_eq_true hb
          subst this
          exact (h1 (memB_iff.1 hm)).elim
        · exact h2
      · rename_i hm
        cases h
        simp only [loopAt] at hc ⊢
        split at hc
        · rename_i hb
          have := Nat.eq_of_beq_eq_true hb
          subst this
          have hk : k ∉ ks := fun hk => by rw [memB_iff.2 hk] at hm; cases hm
          exact ⟨hk, hc⟩
        · exact purge_loop hq hc
    · cases h
theorem purge_row {ks : List Nat} : ∀ {st r : List E}, purgeE ks st = some r → ∀ {k : Nat} {x}, rowAt k r = some x → k ∉ ks ∧ rowAt k st = some x
  | [], r, h, k, x, hc => by simp only [purgeE, Option.some.injEq] at h; subst h; simp [rowAt] at hc
  | .r o nw k' ver e sz l :: st, r, h, k, x, hc => by
    simp only [purgeE] at h
    split at h
    · rename_i q hq
      split at h
      · rename_i hm
        cases h
        obtain ⟨h1, h2⟩ := purge_row hq hc
        refine ⟨h1, ?_⟩
        simp only [rowAt]
        split
        · rename_i hb
          have := Nat.eq_of_beq_eq_true hb
          subst this
          exact (h1 (memB_iff.1 hm)).elim
        · exact h2
      · rename_i hm
        cases h
        simp only [rowAt] at hc ⊢
        split at hc
        · rename_i hb
          have := Nat.eq_of_beq_eq_true hb
          subst this
          have hk : k ∉ ks := fun hk => by rw [memB_iff.2 hk] at hm; cases hm
          exact ⟨hk, hc⟩
        · exact purge_row hq hc
    · cases h
  | .c k' o' vs :: st, r, h, k, x, hc => by
    simp only [purgeE] at h
    simp only [rowAt]
    split at h
    · rename_i q hq
      split at h
      · cases h; exact purge_row hq hc
      · cases h; simp only [rowAt] at hc; exact purge_row hq hc
    · cases h
  | .y k' lp T tm :: st, r, h, k, x, hc => by
    simp only [purgeE] at h
    simp only [rowAt]
    split at h
    · rename_i q hq
      split at h
      · cases h; exact purge_row hq hc
      · cases h; simp only [rowAt] at hc; exact purge_row hq hc
    · cases h
theorem mapVs_get : ∀ {l r : List V}, mapVs m nb ρ l = some r → r.length = l.length ∧ ∀ {i : Nat} {y : V}, r[i]? = some y → ∃ x, l[i]? = some x ∧ mapV m nb ρ x = some y
  | [], r, h => by simp only [mapVs, Option.some.injEq] at h; subst h; simp
  | x :: xs, r, h => by
    simp only [mapVs] at h
    split at h
    · rename_i y hy
      split at h
      · rename_i ys hys
        cases h
        obtain ⟨h1, h2⟩ := mapVs_get hys
        refine ⟨by simp [h1], fun {i z} hz => ?_⟩
        cases i with
        | zero => simp only [List.getElem?_cons_zero, Option.some.injEq] at hz ⊢; subst hz; exact ⟨x, rfl, hy⟩
        | succ i => simp only [List.getElem?_cons_succ] at hz ⊢; exact h2 hz
      · cases h
    · cases h
/-- the names of the image, and whence they come -/
theorem mapN_inj (hρ : rhoOk ρ = true) (hlt : ∀ (i : Nat) (p : Nat × Option Nat), ρ[i]? = some p → p.1 < nb) {i j k : Nat} (hi : mapN m nb ρ i = some k) (hj : mapN m nb ρ j = some k) : i = j := by
  unfold mapN at hi hj
  split at hi <;> split at hj
  · split at hi
    · rename_i p hp
      split at hj
      · rename_i q hq; simp only [Option.some.injEq] at hi hj; exact rho_inj hρ hp hq (by rw [hi, hj])
      · cases hj
    · cases hi
  · split at hi
    · rename_i p hp; cases hi; have := hlt _ _ hp; simp only [Option.some.injEq] at hj; omega
    · cases hi
  · split at hj
    · rename_i p hp; cases hj; have := hlt _ _ hp; simp only [Option.some.injEq] at hi; omega
    · cases hj
  · rename_i h1 _ h2
    have g1 : ¬ i < m := fun h => by rw [show Nat.blt i m = true from Nat.ble_eq_true_of_le h] at h1; cases h1
    have g2 : ¬ j < m := fun h => by rw [show Nat.blt j m = true from Nat.ble_eq_true_of_le h] at h2; cases h2
    simp only [Option.some.injEq] at hi hj; omega
theorem mapR_N {i ver : Nat} {p : Nat × Nat} (h : mapR m nb ρ i ver = some p) : mapN m nb ρ i = some p.1 := by
  unfold mapR at h
  unfold mapN
  split at h
  · split at h
    · rename_i hp; cases h; simp [hp]
    · cases h
  · cases h; rfl
theorem mapEs_cell (hρ : rhoOk ρ = true) (hlt : ∀ (i : Nat) (p : Nat × Option Nat), ρ[i]? = some p → p.1 < nb) {tail : List E} : ∀ {st1 r : List E}, mapEs m nb ρ tail st1 = some r → ∀ {k off : Nat} {v : V}, cellAt k off r = some v →
    (∃ i v1, mapN m nb ρ i = some k ∧ cellAt i off st1 = some v1 ∧ mapV m nb ρ v1 = some v) ∨ cellAt k off tail = some v
  | [], r, h, k, off, v, hc => by simp only [mapEs, Option.some.injEq] at h; subst h; exact .inr hc
  | .c i o' vs :: st1, r, h, k, off, v, hc => by
    simp only [mapEs] at h
    split at h
    · rename_i q hq
      split at h
      · rename_i k' hk'
        split at h
        · rename_i us hus
          cases h
          have hrec : cellAt k off q = some v → (∀ v1, cellAt i off (.c i o' vs :: st1) = some v1 → k = k' → cellAt i off st1 = some v1) → (∃ i' v1, mapN m nb ρ i' = some k ∧ cellAt i' off (.c i o' vs :: st1) = some v1 ∧ mapV m nb ρ v1 = some v) ∨ cellAt k off tail = some v := fun hc hsk => by
            rcases mapEs_cell hρ hlt hq hc with ⟨i', v1, e1, e2, e3⟩ | h
            · refine .inl ⟨i', v1, e1, ?_, e3⟩
              simp only [cellAt]
              split
              · rename_i hb
                have := Nat.eq_of_beq_eq_true hb
                subst this
                rw [hk'] at e1; cases e1
                split
                · split
                  · rename_i x hx
                    have hz := hsk x (by simp only [cellAt, Nat.beq_refl]; rename_i ho hx; simp [ho, hx]) rfl
                    rw [hz] at e2; exact e2
                  · exact e2
                · exact e2
              · exact e2
            · exact .inr h
          simp only [cellAt] at hc
          split at hc
          · rename_i hb
            have := Nat.eq_of_beq_eq_true hb
            subst this
            split at hc
            · rename_i ho
              split at hc
              · rename_i y hy
                cases hc
                obtain ⟨x, hx, hm⟩ := (mapVs_get hus).2 hy
                exact .inl ⟨i, x, hk', by simp only [cellAt, Nat.beq_refl, ho, hx], hm⟩
              · rename_i hy
                refine hrec hc fun v1 h1 _ => ?_
                have : vs[off - o']? = none := by
                  rw [List.getElem?_eq_none_iff] at hy ⊢
                  rw [(mapVs_get hus).1] at hy; exact hy
                simp only [cellAt, Nat.beq_refl, ho, this] at h1; exact h1
            · rename_i ho
              exact hrec hc fun v1 h1 _ => by simp only [cellAt, Nat.beq_refl, ho] at h1; exact h1
          · rename_i hb
            exact hrec hc fun v1 _ e => by subst e; rw [Nat.beq_refl] at hb; cases hb
        · cases h
      · cases h
    · cases h
  | .r .. :: st1, r, h, k, off, v, hc => by
    simp only [mapEs] at h
    split at h
    · rename_i q hq
      split at h
      · cases h
        simp only [cellAt] at hc ⊢
        exact mapEs_cell hρ hlt hq hc
      · cases h
    · cases h
  | .y .. :: st1, r, h, k, off, v, hc => by
    simp only [mapEs] at h
    simp only [cellAt]
    exact mapEs_cell hρ hlt h hc
theorem mapEs_loop {tail : List E} : ∀ {st1 r : List E}, mapEs m nb ρ tail st1 = some r → ∀ {k : Nat} {lp}, loopAt k r = some lp → loopAt k tail = some lp
  | [], r, h, k, lp, hc => by simp only [mapEs, Option.some.injEq] at h; subst h; exact hc
  | .r .. :: st1, r, h, k, lp, hc => by
    simp only [mapEs] at h
    split at h
    · rename_i q hq
      split at h
      · cases h; simp only [loopAt] at hc; exact mapEs_loop hq hc
      · cases h
    · cases h
  | .c .. :: st1, r, h, k, lp, hc => by
    simp only [mapEs] at h
    split at h
    · rename_i q hq
      split at h
      · split at h
        · cases h; simp only [loopAt] at hc; exact mapEs_loop hq hc
        · cases h
      · cases h
    · cases h
  | .y .. :: st1, r, h, k, lp, hc => by
    simp only [mapEs] at h
    exact mapEs_loop h hc
theorem mapEs_row (hρ : rhoOk ρ = true) (hlt : ∀ (i : Nat) (p : Nat × Option Nat), ρ[i]? = some p → p.1 < nb) {tail : List E} : ∀ {st1 r : List E}, mapEs m nb ρ tail st1 = some r → ∀ {k : Nat} {o nw ver e sz l}, rowAt k r = some (o, nw, ver, e, sz, l) →
    (∃ i v1, mapR m nb ρ i v1 = some (k, ver) ∧ rowAt i st1 = some (o, nw, v1, e, sz, l)) ∨ rowAt k tail = some (o, nw, ver, e, sz, l)
  | [], r, h, k, o, nw, ver, e, sz, l, hc => by simp only [mapEs, Option.some.injEq] at h; subst h; exact .inr hc
  | .r o' nw' i ver' e' sz' l' :: st1, r, h, k, o, nw, ver, e, sz, l, hc => by
    simp only [mapEs] at h
    split at h
    · rename_i q hq
      split at h
      · rename_i p hp
        cases h
        simp only [rowAt] at hc
        split at hc
        · rename_i hb
          have := Nat.eq_of_beq_eq_true hb
          subst this
          cases hc
          exact .inl ⟨i, ver', hp, by simp only [rowAt, Nat.beq_refl]⟩
        · rename_i hb
          rcases mapEs_row hρ hlt hq hc with ⟨i', v1, e1, e2⟩ | h
          · refine .inl ⟨i', v1, e1, ?_⟩
            simp only [rowAt]
            split
            · rename_i hb2
              have := Nat.eq_of_beq_eq_true hb2
              subst this
              have h1 := mapR_N hp
              have h2 := mapR_N e1
              rw [h1] at h2
              simp only [Option.some.injEq] at h2
              rw [← h2, Nat.beq_refl] at hb; cases hb
            · exact e2
          · exact .inr h
      · cases h
    · cases h
  | .y .. :: st1, r, h, k, o, nw, ver, e, sz, l, hc => by
    simp only [mapEs] at h
    simp only [rowAt]
    exact mapEs_row hρ hlt h hc
  | .c .. :: st1, r, h, k, o, nw, ver, e, sz, l, hc => by
    simp only [mapEs] at h
    split at h
    · rename_i q hq
      split at h
      · split at h
        · cases h
          simp only [rowAt] at hc ⊢
          exact mapEs_row hρ hlt hq hc
        · cases h
      · cases h
    · cases h
end

end Go.Proofs.Ytjfaihpiohccbaa

namespace Go.Proofs.Ytjfaihpiohccbaa
open Go.RowKit

open Classical in
/-- the function's name for the caller's k, if that stays -/
noncomputable def pickN (m : Nat) (ρ : Rho) (k : Nat) : Option (Nat × Option Nat) := if h : ∃ q : Nat × Option Nat, q.1 < m ∧ ρ[q.1]? = some (k, q.2) then some h.choose else none
theorem pickN_of {m : Nat} {ρ : Rho} (hρ : rhoOk ρ = true) {i k : Nat} {v : Option Nat} (hi : i < m) (h : ρ[i]? = some (k, v)) : pickN m ρ k = some (i, v) := by
  have hx : ∃ q : Nat × Option Nat, q.1 < m ∧ ρ[q.1]? = some (k, q.2) := ⟨(i, v), hi, h⟩
  unfold pickN
  rw [dif_pos hx]
  have hc := hx.choose_spec
  have e : hx.choose.1 = i := rho_inj hρ hc.2 h rfl
  have h2 := hc.2
  rw [e, h] at h2
  simp only [Option.some.injEq, Prod.mk.injEq, true_and] at h2
  exact congrArg some (Prod.ext e h2.symm)
theorem pickN_spec {m : Nat} {ρ : Rho} {k : Nat} {q : Nat × Option Nat} (h : pickN m ρ k = some q) : q.1 < m ∧ ρ[q.1]? = some (k, q.2) := by
  unfold pickN at h
  split at h
  · rename_i hx; cases h; exact hx.choose_spec
  · cases h
def namesR (ρ : Rho) : List Nat := ρ.map (·.1)
open Classical in
/-- the caller's own behind the call -/
noncomputable def G.back (g g1 : G) (m nb : Nat) (ρ : Rho) : G :=
  ⟨g.ex,
   fun k => if k < nb then (match g.bx k with | some b => some b | none => match pickN m ρ k with | some q => g1.bx q.1 | none => none) else g1.bx (k - nb + m),
   fun k => if k < nb then (match pickN m ρ k with | some q => g1.rb q.1 | none => if k ∈ namesR ρ then none else g.rb k) else g1.rb (k - nb + m),
   fun k ver => if k < nb then (match g.rw k ver with | some u => some u | none => match pickN m ρ k with | some (i, some v) => if v ≤ ver then g1.rw i (ver - v) else none | _ => none) else g1.rw (k - nb + m) ver⟩

/-- what is known at the call, and behind it -/
structure VmC (B m nb nb1 : Nat) (ρ : Rho) (st : List E) (g g1 : G) (w w' : World) : Prop where
  rho : rhoOk ρ = true
  lt : ∀ (i : Nat) (p : Nat × Option Nat), ρ[i]? = some p → p.1 < nb
  sim : SimS B g w st
  inv : Inv B nb g w
  ver : ∀ (i k v : Nat), ρ[i]? = some (k, some v) → ∀ j u, g.rw k j = some u → j ≤ v
  ext : Ext m (g.loc m ρ) w g1 w'
  inv1 : Inv B nb1 g1 w'
  le : m ≤ nb1

section
variable {B m nb nb1 : Nat} {ρ : Rho} {st : List E} {g g1 : G} {w w' : World}
theorem blt_iff {i m : Nat} : Nat.blt i m = true ↔ i < m := ⟨fun h => blt_lt h, fun h => Nat.ble_eq_true_of_le h⟩
theorem mapN_cases {i k : Nat} (h : mapN m nb ρ i = some k) : (i < m ∧ ∃ v, ρ[i]? = some (k, v)) ∨ (m ≤ i ∧ k = nb + (i - m)) := by
  unfold mapN at h
  split at h
  · rename_i hb
    split at h
    · rename_i p hp; simp only [Option.some.injEq] at h; subst h; exact .inl ⟨blt_iff.1 hb, p.2, hp⟩
    · cases h
  · rename_i hb
    simp only [Option.some.injEq] at h
    exact .inr ⟨Nat.le_of_not_lt fun hlt => (by rw [blt_iff.2 hlt] at hb; cases hb), h.symm⟩
theorem mapN_ge {i : Nat} (h : m ≤ i) : mapN m nb ρ i = some (nb + (i - m)) := by
  unfold mapN
  rw [show Nat.blt i m = false from by
    cases hb : Nat.blt i m
    · rfl
    · have := blt_iff.1 hb; omega]
theorem mapN_lt {i k : Nat} {v : Option Nat} (h : i < m) (hp : ρ[i]? = some (k, v)) : mapN m nb ρ i = some k := by
  unfold mapN
  rw [blt_iff.2 h]
  simp only [hp]

namespace VmC
variable (h : VmC B m nb nb1 ρ st g g1 w w')
include h
theorem bx1 {i k b : Nat} (hk : mapN m nb ρ i = some k) (hb : g1.bx i = some b) : (g.back g1 m nb ρ).bx k = some b := by
  rcases mapN_cases hk with ⟨hi, v, hp⟩ | ⟨hi, rfl⟩
  · have hlt := h.lt _ _ hp
    simp only at hlt
    simp only [G.back, if_pos hlt]
    split
    · rename_i b0 hb0
      have : (g.loc m ρ).bx i = some b0 := by simp only [G.loc, hp]; rw [if_pos hi]; exact hb0
      rw [h.ext.bx hi this] at hb
      exact hb
    · rw [pickN_of h.rho hi hp]; exact hb
  · simp only [G.back]
    rw [if_neg (by omega), show nb + (i - m) - nb + m = i by omega]; exact hb
theorem rb1 {i k : Nat} (hk : mapN m nb ρ i = some k) : (g.back g1 m nb ρ).rb k = g1.rb i := by
  rcases mapN_cases hk with ⟨hi, v, hp⟩ | ⟨hi, rfl⟩
  · have hlt := h.lt _ _ hp
    simp only at hlt
    simp only [G.back, if_pos hlt]
    rw [pickN_of h.rho hi hp]
  · simp only [G.back]
    rw [if_neg (by omega), show nb + (i - m) - nb + m = i by omega]
theorem rw1 {i ver : Nat} {p : Nat × Nat} {u : Value} (hk : mapR m nb ρ i ver = some p) (hb : g1.rw i ver = some u) : (g.back g1 m nb ρ).rw p.1 p.2 = some u := by
  unfold mapR at hk
  split at hk
  · rename_i hi
    have hi := blt_iff.1 hi
    split at hk
    · rename_i k v hp
      cases hk
      have hlt := h.lt _ _ hp
      simp only at hlt
      simp only [G.back, if_pos hlt]
      split
      · rename_i u0 hu0
        have hv := h.ver _ _ _ hp _ _ hu0
        have : ver = 0 := by omega
        subst this
        have : (g.loc m ρ).rw i 0 = some u0 := by simp only [G.loc, hp]; exact hu0
        rw [h.ext.rw hi this] at hb
        exact hb
      · rw [pickN_of h.rho hi hp]
        simp only
        rw [if_pos (by omega), show v + ver - v = ver by omega]; exact hb
    · cases hk
  · rename_i hi
    have hi : m ≤ i := Nat.le_of_not_lt fun hlt => by rw [blt_iff.2 hlt] at hi; cases hi
    cases hk
    simp only [G.back]
    rw [if_neg (by omega), show nb + (i - m) - nb + m = i by omega]; exact hb
/-- blocks of the caller's that the function was not told of -/
theorem exo {b : Nat} (ho : g.own b) (hx : ∀ i p, ρ[i]? = some p → (i < m → g.bx p.1 ≠ some b) ∧ g.rb p.1 ≠ some b) : g1.ex b := by
  rw [h.ext.ex]; exact ⟨ho, hx⟩
theorem exe {b : Nat} (he : g.ex b) : g1.ex b := h.exo (.inl he) fun _ _ _ => ⟨fun _ hb => h.inv.exbx hb he, fun hb => h.inv.exrb hb he⟩
theorem bxc {k b : Nat} (hb : (g.back g1 m nb ρ).bx k = some b) : (k < nb ∧ g.bx k = some b ∧ g1.ex b) ∨ ∃ i, mapN m nb ρ i = some k ∧ g1.bx i = some b := by
  simp only [G.back] at hb
  split at hb
  · rename_i hk
    split at hb
    · rename_i b0 hb0
      cases hb
      by_cases hx : ∃ i v, i < m ∧ ρ[i]? = some (k, v)
      · obtain ⟨i, v, hi, hp⟩ := hx
        have : (g.loc m ρ).bx i = some b := by simp only [G.loc, hp]; rw [if_pos hi]; exact hb0
        exact .inr ⟨i, mapN_lt hi hp, h.ext.bx hi this⟩
      · refine .inl ⟨hk, hb0, h.exo (.inr (.inl ⟨k, hb0⟩)) fun i p hp => ⟨fun hi e => hx ⟨i, p.2, hi, ?_⟩, fun e => h.inv.apart hb0 e⟩⟩
        have := h.inv.bxinj hb0 e
        subst this; exact hp
    · split at hb
      · rename_i q hq
        obtain ⟨h1, h2⟩ := pickN_spec hq
        exact .inr ⟨q.1, mapN_lt h1 h2, hb⟩
      · cases hb
  · rename_i hk
    exact .inr ⟨k - nb + m, by rw [mapN_ge (by omega)]; congr 1; omega, hb⟩
theorem rbc {k b : Nat} (hb : (g.back g1 m nb ρ).rb k = some b) : (k < nb ∧ g.rb k = some b ∧ g1.ex b) ∨ ∃ i, mapN m nb ρ i = some k ∧ g1.rb i = some b := by
  simp only [G.back] at hb
  split at hb
  · rename_i hk
    split at hb
    · rename_i q hq
      obtain ⟨h1, h2⟩ := pickN_spec hq
      exact .inr ⟨q.1, mapN_lt h1 h2, hb⟩
    · split at hb
      · cases hb
      · rename_i hn
        refine .inl ⟨hk, hb, h.exo (.inr (.inr ⟨k, hb⟩)) fun i p hp => ⟨fun _ e => h.inv.apart e hb, fun e => hn ?_⟩⟩
        have := h.inv.rbinj hb e
        subst this
        exact List.mem_map.2 ⟨p, List.mem_of_getElem? hp, rfl⟩
  · rename_i hk
    exact .inr ⟨k - nb + m, by rw [mapN_ge (by omega)]; congr 1; omega, hb⟩
theorem own {b : Nat} (ho : (g.back g1 m nb ρ).own b) : g1.own b := by
  rcases ho with ho | ⟨k, ho⟩ | ⟨k, ho⟩
  · exact .inl (h.exe ho)
  · rcases h.bxc ho with ⟨_, _, k⟩ | ⟨i, _, k⟩
    · exact .inl k
    · exact .inr (.inl ⟨i, k⟩)
  · rcases h.rbc ho with ⟨_, _, k⟩ | ⟨i, _, k⟩
    · exact .inl k
    · exact .inr (.inr ⟨i, k⟩)
theorem prot {b : Nat} (hp : g1.prot b) : (g.back g1 m nb ρ).prot b := fun ho => hp (h.own ho)
theorem evo : Evo B g w (g.back g1 m nb ρ) w' := by
  refine ⟨h.ext.os, h.ext.tape, h.ext.output, h.ext.size, fun {k b} hb => ?_, fun {k i v} hv => ?_, fun b hb hp => ?_, rfl, fun b hb => ?_⟩
  · simp only [G.back]
    rw [if_pos (h.inv.bxlt hb).2, hb]
  · simp only [G.back]
    rw [if_pos (h.inv.rwlt hv), hv]
  · have := h.ext.blk b hb (by rw [loc_prot]; exact hp)
    exact ⟨h.prot this.1, this.2⟩
  · exact h.ext.exblk b ⟨.inl hb, fun _ _ _ => ⟨fun _ e => h.inv.exbx e hb, fun e => h.inv.exrb e hb⟩⟩
theorem inv2 : Inv B (nb + (nb1 - m)) (g.back g1 m nb ρ) w' := by
  have hle := h.le
  have hsz := h.ext.size
  have nlt : ∀ {i k}, mapN m nb ρ i = some k → i < nb1 → k < nb + (nb1 - m) := fun {i k} hk hi => by
    rcases mapN_cases hk with ⟨_, v, hp⟩ | ⟨_, rfl⟩
    · have := h.lt _ _ hp; simp only at this; omega
    · omega
  refine ⟨fun {k b} hb => ?_, fun {k b} hb => ?_, fun {k i v} hv => ?_, fun {k k' b} h1 h2 => ?_, fun {k k' b} h1 h2 => ?_, fun {k k' b} h1 h2 => ?_, fun {b} hb => by have := h.inv.exlt hb; omega, fun {k b} hb he => ?_, fun {k b} hb he => ?_, h.inv1.base⟩
  · rcases h.bxc hb with ⟨hk, hb, _⟩ | ⟨i, hk, hb⟩
    · have := (h.inv.bxlt hb).1; exact ⟨by omega, by omega⟩
    · have := h.inv1.bxlt hb; exact ⟨this.1, nlt hk this.2⟩
  · rcases h.rbc hb with ⟨hk, hb, _⟩ | ⟨i, hk, hb⟩
    · have := (h.inv.rblt hb).1; exact ⟨by omega, by omega⟩
    · have := h.inv1.rblt hb; exact ⟨this.1, nlt hk this.2⟩
  · simp only [G.back] at hv
    split at hv
    · omega
    · have := h.inv1.rwlt hv; omega
  · rcases h.bxc h1 with ⟨_, a1, a2⟩ | ⟨i, a1, a2⟩ <;> rcases h.bxc h2 with ⟨_, c1, c2⟩ | ⟨j, c1, c2⟩
    · exact h.inv.bxinj a1 c1
    · exact (h.inv1.exbx c2 a2).elim
    · exact (h.inv1.exbx a2 c2).elim
    · have := h.inv1.bxinj a2 c2; subst this; rw [a1] at c1; cases c1; rfl
  · rcases h.rbc h1 with ⟨_, a1, a2⟩ | ⟨i, a1, a2⟩ <;> rcases h.rbc h2 with ⟨_, c1, c2⟩ | ⟨j, c1, c2⟩
    · exact h.inv.rbinj a1 c1
    · exact (h.inv1.exrb c2 a2).elim
    · exact (h.inv1.exrb a2 c2).elim
    · have := h.inv1.rbinj a2 c2; subst this; rw [a1] at c1; cases c1; rfl
  · rcases h.bxc h1 with ⟨_, a1, a2⟩ | ⟨i, a1, a2⟩ <;> rcases h.rbc h2 with ⟨_, c1, c2⟩ | ⟨j, c1, c2⟩
    · exact h.inv.apart a1 c1
    · exact h.inv1.exrb c2 a2
    · exact h.inv1.exbx a2 c2
    · exact h.inv1.apart a2 c2
  · rcases h.bxc hb with ⟨_, a1, _⟩ | ⟨i, a1, a2⟩
    · exact h.inv.exbx a1 he
    · exact h.inv1.exbx a2 (h.exe he)
  · rcases h.rbc hb with ⟨_, a1, _⟩ | ⟨i, a1, a2⟩
    · exact h.inv.exrb a1 he
    · exact h.inv1.exrb a2 (h.exe he)
theorem ddp {x : D} {u : Value} (hu : drep B g1.prot w' x u) : drep B (g.back g1 m nb ρ).prot w' x u := drep_mono (Nat.le_refl _) (fun _ _ hb => ⟨h.prot hb, rfl⟩) hu
omit h
mutual
theorem vrepm (h : VmC B m nb nb1 ρ st g g1 w w') : ∀ {v1 v : V}, mapV m nb ρ v1 = some v → ∀ {u : Value}, vrep B g1 w' v1 u → vrep B (g.back g1 m nb ρ) w' v u
  | .d x, v, hv, u, hu => by simp only [mapV, Option.some.injEq] at hv; subst hv; simp only [vrep] at hu ⊢; exact h.ddp hu
  | .ep l, v, hv, u, hu => by
    simp only [mapV, Option.some.injEq] at hv; subst hv; simp only [vrep] at hu ⊢
    obtain ⟨b, o, cs, e, k1, k2⟩ := hu
    exact ⟨b, o, cs, e, k1.imp fun b hb => h.prot hb, dreps_mono (Nat.le_refl _) (fun _ _ hb => ⟨h.prot hb, rfl⟩) k2⟩
  | .agg l, v, hv, u, hu => by
    simp only [mapV] at hv
    split at hv
    · rename_i r hr; cases hv; simp only [vrep] at hu ⊢; obtain ⟨cs, e, k⟩ := hu; exact ⟨cs, e, vrepms h hr k⟩
    · cases hv
  | .tup l, v, hv, u, hu => by
    simp only [mapV] at hv
    split at hv
    · rename_i r hr; cases hv; simp only [vrep] at hu ⊢; obtain ⟨cs, e, k⟩ := hu; exact ⟨cs, e, vrepms h hr k⟩
    · cases hv
  | .ptr i off, v, hv, u, hu => by
    simp only [mapV] at hv
    split at hv
    · rename_i k hk; cases hv; simp only [vrep] at hu ⊢; obtain ⟨b, hb, e⟩ := hu; exact ⟨b, h.bx1 hk hb, e⟩
    · cases hv
  | .sv i off n cap sz, v, hv, u, hu => by
    simp only [mapV] at hv
    split at hv
    · rename_i k hk; cases hv; simp only [vrep] at hu ⊢; obtain ⟨b, hb, e⟩ := hu; exact ⟨b, h.bx1 hk hb, e⟩
    · cases hv
  | .yl i, v, hv, u, hu => by
    simp only [mapV] at hv
    split at hv
    · rename_i k hk; cases hv; simp only [vrep] at hu ⊢; obtain ⟨b, hb, e⟩ := hu; exact ⟨b, h.bx1 hk hb, e⟩
    · cases hv
  | .rv i ver n, v, hv, u, hu => by
    simp only [mapV] at hv
    split at hv
    · rename_i p hp; cases hv; simp only [vrep] at hu ⊢; obtain ⟨a, m, c, e, k⟩ := hu; exact ⟨a, m, c, h.rw1 hp e, k⟩
    · cases hv
  | .row i ver, v, hv, u, hu => by
    simp only [mapV] at hv
    split at hv
    · rename_i p hp; cases hv; simp only [vrep] at hu ⊢; exact ⟨h.rw1 hp hu.1, hu.2⟩
    · cases hv
  | .rp i ver sz x y, v, hv, u, hu => by
    simp only [mapV] at hv
    split at hv
    · rename_i p hp; cases hv; simp only [vrep] at hu ⊢; obtain ⟨b, n, c, e, k⟩ := hu; exact ⟨b, n, c, h.rw1 hp e, k⟩
    · cases hv
  | .fn f fi ca, v, hv, u, hu => by
    simp only [mapV] at hv
    split at hv
    · rename_i r hr
      split at hv
      · rename_i q hq; cases hv; simp only [vrep] at hu ⊢; obtain ⟨xs, ys, e, k1, k2⟩ := hu; exact ⟨xs, ys, e, vrepms h hr k1, vrepms h hq k2⟩
      · cases hv
    · cases hv
  | .ifc t x, v, hv, u, hu => by
    simp only [mapV] at hv
    split at hv
    · rename_i r hr; cases hv; simp only [vrep] at hu ⊢; obtain ⟨y, e, k⟩ := hu; exact ⟨y, e, vrepm h hr k⟩
    · cases hv
theorem vrepms (h : VmC B m nb nb1 ρ st g g1 w w') : ∀ {v1 v : List V}, mapVs m nb ρ v1 = some v → ∀ {u : List Value}, vreps B g1 w' v1 u → vreps B (g.back g1 m nb ρ) w' v u
  | [], v, hv, u, hu => by simp only [mapVs, Option.some.injEq] at hv; subst hv; simp only [vreps] at hu ⊢; exact hu
  | x :: xs, v, hv, u, hu => by
    simp only [mapVs] at hv
    split at hv
    · rename_i y hy
      split at hv
      · rename_i ys hys
        cases hv
        simp only [vreps] at hu ⊢
        obtain ⟨z, zs, e, k1, k2⟩ := hu
        exact ⟨z, zs, e, vrepm h hy k1, vrepms h hys k2⟩
      · cases hv
    · cases hv
end
include h
omit h in
theorem _root_.Go.Proofs.Ytjfaihpiohccbaa.notinR {k : Nat} (hk : k ∉ namesR ρ) : ∀ (i : Nat) (v : Option Nat), ρ[i]? ≠ some (k, v) := fun _ _ hp => hk (List.mem_map.2 ⟨_, List.mem_of_getElem? hp, rfl⟩)
theorem sim2 {st1 tail r : List E} (hs1 : SimS B g1 w' st1) (ht : purgeE (namesR ρ) st = some tail) (hr : mapEs m nb ρ tail st1 = some r) : SimS B (g.back g1 m nb ρ) w' r := by
  refine ⟨fun {k off v} hc => ?_, fun {k o nw ver e sz l} hc => ?_, fun {k lp T tm0} hc => ?_⟩
  · rcases mapEs_cell h.rho h.lt hr hc with ⟨i, v1, e1, e2, e3⟩ | hc
    · obtain ⟨b, rcs, ty, u, m1, m2, m3, m4⟩ := hs1.cell e2
      exact ⟨b, rcs, ty, u, h.bx1 e1 m1, m2, m3, h.vrepm e3 m4⟩
    · obtain ⟨hk, hc⟩ := purge_cell ht hc
      obtain ⟨b, rcs, ty, u, m1, m2, m3, m4⟩ := h.sim.cell hc
      refine ⟨b, rcs, ty, u, h.evo.bx m1, ?_, m3, h.evo.vrep m4⟩
      rw [h.ext.exblk b ⟨.inr (.inl ⟨k, m1⟩), fun i p hp => ⟨fun _ e => notinR hk i p.2 (by have := h.inv.bxinj m1 e; subst this; exact hp), fun e => h.inv.apart m1 e⟩⟩]; exact m2
  · rcases mapEs_row h.rho h.lt hr hc with ⟨i, v1, e1, e2⟩ | hc
    · obtain ⟨v, xs, r1, r2, r3, r4, r5⟩ := hs1.row e2
      have hN := mapR_N e1
      have hrb := h.rb1 hN
      have d2 : drepss B (g.back g1 m nb ρ).prot w' l xs := drepss_mono (Nat.le_refl _) (fun _ _ hb => ⟨h.prot hb, rfl⟩) r2
      refine ⟨v, xs, h.rw1 e1 r1, d2, ⟨r3.1, r3.2.1, fun j x hx => ?_⟩, r4, ?_⟩
      · simp only [G.back] at hx
        unfold mapR at e1
        split at e1
        · rename_i hi
          have hi := blt_iff.1 hi
          split at e1
          · rename_i k' v' hp
            cases e1
            rw [if_pos (h.lt _ _ hp)] at hx
            split at hx
            · rename_i hu; have := h.ver _ _ _ hp _ _ hu; omega
            · rw [pickN_of h.rho hi hp] at hx
              simp only at hx
              split at hx
              · have := r3.2.2 _ _ hx; omega
              · cases hx
          · cases e1
        · rename_i hi
          have hi : m ≤ i := Nat.le_of_not_lt fun hlt => by rw [blt_iff.2 hlt] at hi; cases hi
          cases e1
          rw [if_neg (by omega), show nb + (i - m) - nb + m = i by omega] at hx
          exact r3.2.2 _ _ hx
      · rcases r5 with ⟨a1, a2, a3⟩ | ⟨a1, a2, a3⟩
        · exact .inl ⟨a1, a2, hrb.trans a3⟩
        · exact .inr ⟨a1, hrb.trans a2, h.ddp a3⟩
    · obtain ⟨hk, hc⟩ := purge_row ht hc
      obtain ⟨v, xs, r1, r2, r3, r4, r5⟩ := h.sim.row hc
      have hkn : k < nb := h.inv.rwlt r1
      have hpk : pickN m ρ k = none := by
        cases hq : pickN m ρ k with
        | none => rfl
        | some q => exact (notinR hk _ _ (pickN_spec hq).2).elim
      have hrb : (g.back g1 m nb ρ).rb k = g.rb k := by simp only [G.back, if_pos hkn, hpk, if_neg hk]
      refine ⟨v, xs, h.evo.rw r1, h.evo.drepss r2, ⟨r3.1, r3.2.1, fun j x hx => ?_⟩, r4, ?_⟩
      · simp only [G.back, if_pos hkn, hpk] at hx
        split at hx
        · rename_i hu; exact r3.2.2 _ _ hu
        · cases hx
      · rcases r5 with ⟨a1, a2, a3⟩ | ⟨a1, a2, a3⟩
        · refine .inl ⟨a1, ⟨a2.1, ?_⟩, hrb.trans a3⟩
          rcases a2.2 with q | ⟨gb, cap, cur, hv, hb, hh, rest⟩
          · exact .inl q
          · refine .inr ⟨gb, cap, cur, hv, hb, ?_, rest⟩
            have hgb : g.rb k = some gb := by rw [a3, hv]; rfl
            rw [h.ext.exblk gb ⟨.inr (.inr ⟨k, hgb⟩), fun i p hp => ⟨fun _ e => h.inv.apart e hgb, fun e => notinR hk i p.2 (by have := h.inv.rbinj hgb e; subst this; exact hp)⟩⟩]; exact hh
        · exact .inr ⟨a1, hrb.trans a2, h.evo.drep a3⟩
  · obtain ⟨hk, hc⟩ := purge_loop ht (mapEs_loop hr hc)
    obtain ⟨h1, h2⟩ := h.sim.loop hc
    refine ⟨fun r e => let ⟨b, m1, m2⟩ := h1 r e; ⟨b, h.evo.bx m1, ?_⟩, fun ht => h.evo.vrep (h2 ht)⟩
    rw [h.ext.exblk b ⟨.inr (.inl ⟨k, m1⟩), fun i p hp => ⟨fun _ e => notinR hk i p.2 (by have := h.inv.bxinj m1 e; subst this; exact hp), fun e => h.inv.apart m1 e⟩⟩]; exact m2
end VmC

/-! ### the call -/
def mapRC (m nb : Nat) (ρ : Rho) : RC → Option RC
  | .ret v => match mapV m nb ρ v with
    | some x => some (.ret x)
    | none => none
  | .panic v => match mapV m nb ρ v with
    | some x => some (.panic x)
    | none => none
def rhoIn (nb : Nat) (st : List E) : Rho → Bool
  | [] => true
  | (k, none) :: r => (match Nat.blt k nb with
    | true => rhoIn nb st r
    | false => false)
  | (k, some v) :: r => (match Nat.blt k nb with
    | true => (match rowAt k st with
      | some (_, _, v', _, _, _) => (match Nat.beq v v' with
        | true => rhoIn nb st r
        | false => false)
      | none => false)
    | false => false)
theorem rhoIn_spec (hs : SimS B g w st) : ∀ {ρ : Rho}, rhoIn nb st ρ = true → (∀ (i : Nat) (p : Nat × Option Nat), ρ[i]? = some p → p.1 < nb) ∧ (∀ (i k v : Nat), ρ[i]? = some (k, some v) → ∀ j u, g.rw k j = some u → j ≤ v)
  | [], _ => ⟨fun _ _ h => by simp at h, fun _ _ _ h => by simp at h⟩
  | (k, none) :: r, h => by
    simp only [rhoIn] at h
    split at h
    · rename_i hb
      obtain ⟨h1, h2⟩ := rhoIn_spec hs h
      refine ⟨fun i p hp => ?_, fun i k' v hp => ?_⟩
      · cases i with
        | zero => simp only [List.getElem?_cons_zero, Option.some.injEq] at hp; subst hp; exact blt_iff.1 hb
        | succ i => exact h1 i p (by simpa using hp)
      · cases i with
        | zero => simp at hp
        | succ i => exact h2 i k' v (by simpa using hp)
    · cases h
  | (k, some v0) :: r, h => by
    simp only [rhoIn] at h
    split at h
    · rename_i hb
      split at h
      · rename_i hr
        split at h
        · rename_i hv
          have hv := Nat.eq_of_beq_eq_true hv
          subst hv
          obtain ⟨h1, h2⟩ := rhoIn_spec hs h
          refine ⟨fun i p hp => ?_, fun i k' v hp => ?_⟩
          · cases i with
            | zero => simp only [List.getElem?_cons_zero, Option.some.injEq] at hp; subst hp; exact blt_iff.1 hb
            | succ i => exact h1 i p (by simpa using hp)
          · cases i with
            | zero =>
              simp only [List.getElem?_cons_zero, Option.some.injEq, Prod.mk.injEq] at hp
              obtain ⟨rfl, rfl⟩ := hp
              obtain ⟨_, _, _, _, r3, _⟩ := hs.row hr
              exact fun j u hu => r3.2.2 j u hu
            | succ i => exact h2 i k' v (by simpa using hp)
        · cases h
      · cases h
    · cases h

theorem vl_vm {P : Program} {cx : Cx} {s : St} {Q : VE → St → Prop} {ops rest : List Oper} {t : Tmp} {x : Operand} {xs : Array Operand} {tys : Array TypeId} {ty : TypeId} {pos : String} {af : Array Edge} {gd : Option (Nat × Bool)} {v : V} {f : FuncId} {vs az vs0 : List V} {m : Nat} {st0 : List E} {K : RC → List E → Nat → Prop} (ρ : Rho)
    (hc : VM P f m vs0 st0 ρ.length K) (hx : evalV s x = some v) (hv : evalVs s xs.toList = some vs) (hf : fnV v vs = some (f, az)) (ha : VLes m ρ s.st vs0 az) (he : EntOk m ρ s.st st0) (hρ : rhoOk ρ = true) (hin : rhoIn s.nb s.st ρ = true) (hm : Nat.ble m ρ.length = true) (hw : Wd ops s.tm gd) (ht : Nat.blt t cx.N = true)
    {tail : List E} (htl : purgeE (namesR ρ) s.st = some tail)
    (k : ∀ r st1 nb1, K r st1 nb1 → ∃ st2 r2, mapEs m s.nb ρ tail st1 = some st2 ∧ mapRC m s.nb ρ r = some r2 ∧ contV P cx ops rest t s.tm Q r2 st2 (s.nb + (nb1 - m))) :
    VL P cx ops (⟨some t, .call { callee := .value x, args := xs, argTypes := tys }, ty, pos, af, gd⟩ :: rest) s Q := fun n g0 w0 g a w hE hS => by
  simp only [wplIn]
  rw [if_pos (Wd.wanted (o := ⟨some t, _, ty, pos, af, gd⟩) hS hw)]
  refine ⟨fun _ _ => trivial, ?_⟩
  rw [Oper.semAt_plain (FW cx.rd) _ _ (by intro c e; cases e)]
  obtain ⟨zs, hrun, hzs⟩ := call_run (P := P) (w := w) (dst := some t) (tys := tys) (ty := ty) (pos := pos) (af := af) (gd := gd) (hc 0).1 hS hx hv hf
  rw [hrun, Oper.uponIn_enter]
  refine ⟨(fun h => by cases h), ?_⟩
  obtain ⟨hlt, hver⟩ := rhoIn_spec hS.st hin
  have hcall := (hc cx.B).2 (g.loc m ρ) w zs (loc_sim hS.st he) (loc_inv hS.inv hρ (Nat.le_of_ble_eq_true hm)) (ha.get hS.st hzs)
  have hmem : ∀ (r : Ending → World → Prop), Calls P f zs.toArray w r → CallsIn (FW cx.rd) (n - 1) P f zs.toArray w r := fun r h =>
    ⟨trivial, fun cs _ => by
      obtain ⟨e, w', fr, hr, hcm, hx⟩ := h cs
      refine ⟨e, w', fr, hr, ?_, hx⟩
      have := comesIn_wide.2 hcm
      cases e with
      | returned v => exact StepsIn.mono (fun m _ => fenced_FW P cx.rd m) this
      | panicked ch => exact StepsIn.mono (fun m _ => fenced_FW P cx.rd m) this
      | outgrown => exact this⟩
  refine (hmem _ hcall).mono ?_
  rintro e w' ⟨g1, st1, nb1, r, k1, k2, k3, k4, k5, k6⟩
  have hV : VmC cx.B m s.nb nb1 ρ s.st g g1 w w' := ⟨hρ, hlt, hS.st, hS.inv, hver, k1, k3, k6⟩
  obtain ⟨st2, r2, q1, q2, q3⟩ := k r st1 nb1 k5
  cases r with
  | ret v =>
    obtain ⟨u, rfl, hu⟩ := k4
    simp only [mapRC] at q2
    split at q2
    · rename_i x hx
      cases q2
      exact q3 n g0 w0 _ _ w' (hE.trans hV.evo) (hS.put hV.evo (Nat.le_of_ble_eq_true ht) (hV.sim2 k2 htl q1) hV.inv2 (hV.vrepm hx hu))
    · cases q2
  | panic v =>
    obtain ⟨u, rfl, hu⟩ := k4
    simp only [mapRC] at q2
    split at q2
    · rename_i x hx
      cases q2
      exact ⟨_, _, .panic x, hE.trans hV.evo, hS.same hV.evo (hV.sim2 k2 htl q1) hV.inv2, ⟨u, rfl, hV.vrepm hx hu⟩, q3⟩
    · cases q2

/-- one answer -/
def VM1 (P : Program) (f : FuncId) (m : Nat) (vs : List V) (st : List E) (nb : Nat) (r1 : RC) (st1 : List E) (nb1 : Nat) : Prop := VM P f m vs st nb fun r s n => r = r1 ∧ s = st1 ∧ n = nb1
theorem vs_vm {P : Program} {cx : Cx} {Q : VE → St → Prop} {ops rest : List Oper} {tm : List (Nat × V)} {t : Tmp} {x : Operand} {xs : Array Operand} {tys : Array TypeId} {ty : TypeId} {pos : String} {af : Array Edge} {gd : Option (Nat × Bool)} {v : V} {f : FuncId} {vs az vs0 : List V} {m nb0 nb1 : Nat} {st0 st1 st2 : List E} {r r2 : RC} (ρ : Rho)
    (hc : VM1 P f m vs0 st0 nb0 r st1 nb1) {tail : List E} (k : contV P cx ops rest t tm Q r2 st2 (nb + (nb1 - m)))
    (hn : nb0 = ρ.length := by rfl) (hx : evalV ⟨tm, st, nb⟩ x = some v := by rfl) (hv : evalVs ⟨tm, st, nb⟩ xs.toList = some vs := by rfl) (hf : fnV v vs = some (f, az) := by rfl)
    (ha : VLes m ρ st vs0 az := by repeat' (first | exact vle_nil | refine vle_cons ?_ ?_ | exact vle_any | exact vle_dd | exact vle_ptr rfl rfl | exact vle_row rfl | refine vle_agg ?_ | refine vle_ifc ?_ | refine vle_fn ?_ ?_ | exact vle_d rfl (by infer_instance)))
    (he : EntOk m ρ st st0 := by repeat' (first | exact trivial | refine ⟨⟨rfl, _, _, rfl, rfl⟩, ?_⟩ | refine ⟨⟨_, _, rfl, rfl, rfl, ?_⟩, ?_⟩ | exact vle_nil | refine vle_cons ?_ ?_ | exact vle_any | exact vle_dd | exact vle_ptr rfl rfl | exact vle_row rfl | refine vle_agg ?_ | refine vle_ifc ?_ | refine vle_fn ?_ ?_ | exact vle_d rfl (by infer_instance)))
    (hρ : rhoOk ρ = true := by decide) (hin : rhoIn nb st ρ = true := by rfl) (hm : Nat.ble m ρ.length = true := by rfl) (hw : Wd ops tm gd := by first | exact trivial | exact wd_of rfl rfl (by with_reducible rfl)) (ht : Nat.blt t cx.N = true := by rfl)
    (htl : purgeE (namesR ρ) st = some tail := by rfl) (h2 : mapEs m nb ρ tail st1 = some st2 := by rfl) (h3 : mapRC m nb ρ r = some r2 := by rfl) :
    VL P cx ops (⟨some t, .call { callee := .value x, args := xs, argTypes := tys }, ty, pos, af, gd⟩ :: rest) ⟨tm, st, nb⟩ Q := by
  subst hn
  exact vl_vm ρ hc hx hv hf ha he hρ hin hm hw ht htl fun r' s n ⟨e1, e2, e3⟩ => by subst e1; subst e2; subst e3; exact ⟨st2, r2, h2, h3, k⟩
end

/-! ### from the walk -/
/-- what the walk of a function's body owes -/
def mK (m : Nat) (K : RC → List E → Nat → Prop) : RC → List E → Nat → Prop := fun r s n => K r s n ∧ m ≤ n
theorem vmb_of {P : Program} {f : FuncId} {fn : Func} {c : Code} {B m : Nat} {vs : List V} {st : List E} {nb : Nat} {K : RC → List E → Nat → Prop} (hf : P.funcs[f]? = some fn) (hb : fn.body = some c) {N : Nat} (hN : fn.ntmps = N) {rs : List ResultVar} (hrs0 : fn.results = rs.toArray)
    (h : ∀ M, VW P ⟨N, none, B, m, some M, []⟩ c ⟨argsT 0 vs, st, nb⟩ (retC P rs (mK m K))) (hle : Nat.ble vs.length N = true := by rfl) (hname : (fn.name == "runtime.NumGoroutine") = false := by kernel_rfl) : VMB P f B m vs st nb K := by
  refine ⟨callFunc_run hf hname (by rw [hb]; rfl), ?_⟩
  have hrs : fn.results.toList = rs := by rw [hrs0]
  intro g w us hs hi hus
  rw [← callsIn_wide (n := 0)]
  refine callsIn_of_wp_marks hf hb trivial ?_
  have hS : Sim ⟨N, none, B, m, some w.heap.size, []⟩ g { tmps := us.toArray ++ Array.replicate (fn.ntmps - us.toArray.size) undef, defers := [] } w ⟨argsT 0 vs, st, nb⟩ := by
    rw [hN]
    have := act_args (N := N) (nb := nb) (M := some w.heap.size) (df := []) hus hle hs hi ⟨(fun _ h => by first | (cases h; fail_if_success (focus skip)) | (cases h; exact Nat.le_refl _)), [], [], rfl, by simp, by simp, rfl⟩
    exact ⟨this.size, this.tm, this.st, this.inv, this.defers⟩
  refine wpIn_mono (h w.heap.size 0 g w g _ w (Ext.refl _ _ _) hS) ?_
  rintro e a' w' ⟨g', s', e', hE, hS', he, hq⟩
  obtain ⟨_, bs, rr, hds, hnd, hbs0, hrr⟩ := hS'.defers
  have hbs : ∀ b ∈ bs, g'.prot b ∧ w.heap.size ≤ b ∧ w'.heap[b]? = some (.deferred (some [])) := fun b hb => by
    obtain ⟨h1, ⟨m, h2, h3⟩, h4⟩ := hbs0 b hb
    cases h2; exact ⟨h1, h3, h4⟩
  simp only [DfL] at hrr
  rw [hrr, List.append_nil] at hds
  have hown : ∀ {w2}, Left bs w' w2 → ∀ b, g'.own b → w2.heap[b]? = w'.heap[b]? := fun hl b hb => hl.block b fun hm => (hbs b hm).1 hb
  have hleft : ∀ {w2}, Left bs w' w2 → Ext m g w g' w2 := fun {w2} hl =>
    ⟨hl.os.trans hE.os, hl.tape.trans hE.tape, hl.output.trans hE.output, by rw [hl.size]; exact hE.size, hE.bx, hE.rw, fun b hlt hp => ⟨(hE.blk b hlt hp).1, (hl.block b fun hm => by have := (hbs b hm).2.1; omega).trans (hE.blk b hlt hp).2⟩, hE.ex,
      fun b he => (hl.block b fun hm => by have := (hbs b hm).2.1; have := hi.exlt he; omega).trans (hE.exblk b he)⟩
  have hret : (∃ vs, ResV P s' rs vs ∧ (K (.ret (packV vs)) s'.st s'.nb ∧ m ≤ s'.nb)) →
      LeavesInM Fence.wide 0 P fn a'.tmps (fun e w' => ∃ g' st' nb' r, Ext m g w g' w' ∧ SimS B g' w' st' ∧ Inv B nb' g' w' ∧ vcrel B g' w' r e ∧ K r st' nb' ∧ m ≤ nb') a'.defers .returning w' := by
    rintro ⟨vs, hv, hq, hmn⟩
    rw [hds]
    refine leaves_marks (by simp) bs w' hnd (fun b hb => (hbs b hb).2.2) fun w2 hl => ?_
    have C := left_cells hl fun b hb => (hbs b hb).2.2
    obtain ⟨u, h1, h2⟩ := ResV.all (fn := fn) hS' (hown hl) (by rw [hrs]; exact hv)
    simp only [LeavesIn]
    exact ⟨u, h1, g', s'.st, s'.nb, .ret (packV vs), hleft hl, cells_simS C hS'.st, hS'.inv.evo (by rw [hl.size]; exact Nat.le_refl _), ⟨u, rfl, cells_vrep C h2⟩, hq, hmn⟩
  cases e' with
  | normal => simp only [erel] at he; subst he; exact hret hq
  | ret => simp only [erel] at he; subst he; exact hret hq
  | panic v =>
    obtain ⟨u, rfl, hu⟩ := he
    simp only [bodyPostM]
    rw [hds]
    refine leaves_marks (by simp) bs w' hnd (fun b hb => (hbs b hb).2.2) fun w2 hl => ?_
    have C := left_cells hl fun b hb => (hbs b hb).2.2
    simp only [LeavesIn]
    exact ⟨g', s'.st, s'.nb, .panic v, hleft hl, cells_simS C hS'.st, hS'.inv.evo (by rw [hl.size]; exact Nat.le_refl _), ⟨u, rfl, cells_vrep C hu⟩, hq.1, hq.2⟩
  | exit id => exact hq.elim
  | goto l => exact hq.elim
theorem vm_of {P : Program} {f : FuncId} {fn : Func} {c : Code} {m : Nat} {vs : List V} {st : List E} {nb : Nat} {K : RC → List E → Nat → Prop} (hf : P.funcs[f]? = some fn) (hb : fn.body = some c) {N : Nat} (hN : fn.ntmps = N) {rs : List ResultVar} (hrs0 : fn.results = rs.toArray)
    (h : ∀ B M, VW P ⟨N, none, B, m, some M, []⟩ c ⟨argsT 0 vs, st, nb⟩ (retC P rs (mK m K))) (hle : Nat.ble vs.length N = true := by rfl) (hname : (fn.name == "runtime.NumGoroutine") = false := by kernel_rfl) : VM P f m vs st nb K := fun B => vmb_of hf hb hN hrs0 (h B) hle hname

end Go.Proofs.Ytjfaihpiohccbaa

namespace Go.Proofs.Ytjfaihpiohccbaa
open Go.RowKit

theorem Ext.trans2 {m : Nat} {g g1 g2 : G} {w w1 w2 : World} (h : Ext m g w g1 w1) (k : Ext m g1 w1 g2 w2) : Ext m g w g2 w2 :=
  ⟨k.os.trans h.os, k.tape.trans h.tape, k.output.trans h.output, Nat.le_trans h.size k.size, fun hk e => k.bx hk (h.bx hk e), fun hk e => k.rw hk (h.rw hk e),
   fun b hb hp => let ⟨h1, h2⟩ := h.blk b hb hp; let ⟨k1, k2⟩ := k.blk b (Nat.lt_of_lt_of_le hb h.size) h1; ⟨k1, k2.trans h2⟩,
   k.ex.trans h.ex, fun b hb => (k.exblk b (by rw [h.ex]; exact hb)).trans (h.exblk b hb)⟩
theorem Evo.ext {B : Nat} {g g' : G} {w w' : World} (h : Evo B g w g' w') (m : Nat) : Ext m g w g' w' := (Ext.refl m g w).trans h

/-- the log without the loop's block -/
def dropY (k : Nat) : List E → Option (List E)
  | [] => some []
  | .y k' lp T tm :: r => (match dropY k r with
    | some q => (match Nat.beq k k' with
      | true => some q
      | false => some (.y k' lp T tm :: q))
    | none => none)
  | .c i off vs :: r => (match dropY k r with
    | some q => some (.c i off vs :: q)
    | none => none)
  | .r o nw i ver e sz l :: r => (match dropY k r with
    | some q => some (.r o nw i ver e sz l :: q)
    | none => none)
theorem dropY_spec {k : Nat} : ∀ {st q : List E}, dropY k st = some q → (∀ i o, cellAt i o q = cellAt i o st) ∧ (∀ i, rowAt i q = rowAt i st) ∧ ∀ i, i ≠ k → loopAt i q = loopAt i st
  | [], q, h => by simp only [dropY, Option.some.injEq] at h; subst h; exact ⟨fun _ _ => rfl, fun _ => rfl, fun _ _ => rfl⟩
  | .y k' lp T tm :: r, q, h => by
    simp only [dropY] at h
    split at h
    · rename_i q' hq
      obtain ⟨h1, h2, h3⟩ := dropY_spec hq
      split at h
      · rename_i hb
        cases h
        refine ⟨fun i o => by simp only [cellAt]; exact h1 i o, fun i => by simp only [rowAt]; exact h2 i, fun i hi => ?_⟩
        have := Nat.eq_of_beq_eq_true hb
        subst this
        simp only [loopAt]
        rw [show Nat.beq i k = false from by
          cases hb : Nat.beq i k
          · rfl
          · exact (hi (Nat.eq_of_beq_eq_true hb)).elim]
        exact h3 i hi
      · cases h
        refine ⟨fun i o => by simp only [cellAt]; exact h1 i o, fun i => by simp only [rowAt]; exact h2 i, fun i hi => ?_⟩
        simp only [loopAt]
        split
        · rfl
        · exact h3 i hi
    · cases h
  | .c .. :: r, q, h => by
    simp only [dropY] at h
    split at h
    · rename_i q' hq
      obtain ⟨h1, h2, h3⟩ := dropY_spec hq
      cases h
      refine ⟨fun i o => by simp only [cellAt, h1], fun i => by simp only [rowAt]; exact h2 i, fun i hi => by simp only [loopAt]; exact h3 i hi⟩
    · cases h
  | .r .. :: r, q, h => by
    simp only [dropY] at h
    split at h
    · rename_i q' hq
      obtain ⟨h1, h2, h3⟩ := dropY_spec hq
      cases h
      refine ⟨fun i o => by simp only [cellAt]; exact h1 i o, fun i => by simp only [rowAt, h2], fun i hi => by simp only [loopAt]; exact h3 i hi⟩
    · cases h
theorem dropY_none {k : Nat} : ∀ {st q : List E}, dropY k st = some q → loopAt k q = none
  | [], q, h => by simp only [dropY, Option.some.injEq] at h; subst h; rfl
  | .y k' lp T tm :: r, q, h => by
    simp only [dropY] at h
    split at h
    · rename_i q' hq
      split at h
      · cases h; exact dropY_none hq
      · rename_i hb
        cases h
        simp only [loopAt, hb]; exact dropY_none hq
    · cases h
  | .c .. :: r, q, h => by
    simp only [dropY] at h
    split at h
    · rename_i q' hq; cases h; simp only [loopAt]; exact dropY_none hq
    · cases h
  | .r .. :: r, q, h => by
    simp only [dropY] at h
    split at h
    · rename_i q' hq; cases h; simp only [loopAt]; exact dropY_none hq
    · cases h
/-- slots below N -/
def lowT (N : Nat) : List (Nat × V) → Option (List (Nat × V))
  | [] => some []
  | (t, v) :: r => match lowT N r with
    | some q => (match Nat.blt t N with
      | true => some ((t, v) :: q)
      | false => some q)
    | none => none
theorem lowT_spec {N : Nat} : ∀ {tm q : List (Nat × V)}, lowT N tm = some q → ∀ {t v}, lookT t q = some v → t < N ∧ lookT t tm = some v
  | [], q, h, t, v, hv => by simp only [lowT, Option.some.injEq] at h; subst h; simp [lookT] at hv
  | (t', v') :: r, q, h, t, v, hv => by
    simp only [lowT] at h
    split at h
    · rename_i q' hq
      split at h
      · rename_i hb
        cases h
        simp only [lookT] at hv ⊢
        split at hv
        · rename_i he
          have := Nat.eq_of_beq_eq_true he
          subst this
          exact ⟨blt_lt hb, hv⟩
        · exact lowT_spec hq hv
      · rename_i hb
        cases h
        obtain ⟨h1, h2⟩ := lowT_spec hq hv
        refine ⟨h1, ?_⟩
        simp only [lookT]
        split
        · rename_i he
          have := Nat.eq_of_beq_eq_true he
          subst this
          rw [blt_iff.2 h1] at hb; cases hb
        · exact h2
    · cases h

/-- the loop's block as it is laid; T: its slots, and behind them what the function calls -/
structure LoopOk (N : Nat) (ps : Array Tmp) (assign body : Code) (R : Loop) (T : Array Value) : Prop where
  state : R.state = .ready
  pending : R.pending = none
  params : R.params = ps
  assign : R.assign = assign
  body : R.body = body
  size : R.tmps.size = N
  low : ∀ t, t < N → T.getD t undef = R.tmps.getD t undef

section
variable {B nb nb' k : Nat} {g g' : G} {w w' : World} {st st' : List E}
/-- the loop's block turns -/
theorem putLoop (hi : Inv B nb g w) (hs : SimS B g w st) {lp : Loop} {T : Array Value} {tm : List (Nat × V)} (hl : loopAt k st = some (some lp, T, tm)) :
    ∃ l, g.bx k = some l ∧ w.heap[l]? = some (.loop lp) ∧ ∀ lp', Evo B g w g (w.putObj l (.loop lp')) ∧ Inv B nb g (w.putObj l (.loop lp')) ∧
      (∀ q, dropY k st = some q → SimS B g (w.putObj l (.loop lp')) q) ∧ SimS B g (w.putObj l (.loop lp')) (.y k (some lp') T tm :: st) := by
  obtain ⟨h1, h2⟩ := hs.loop hl
  obtain ⟨l, m1, m2⟩ := h1 lp rfl
  refine ⟨l, m1, m2, fun lp' => ?_⟩
  have hlt := (Array.getElem?_eq_some_iff.1 m2).1
  have hg : w.grownBy (w.putObj l (.loop lp')) (some l) := grownBy_putObj' w l _
  have hE : Evo B g w g (w.putObj l (.loop lp')) := Evo.of_grown hi hg (.inl ⟨k, m1⟩)
  have hnew : (w.putObj l (.loop lp')).heap[l]? = some (.loop lp') := World.putObj_heap_same hlt
  have hoth : ∀ b, b ≠ l → (w.putObj l (.loop lp')).heap[b]? = w.heap[b]? := fun b hb => World.putObj_heap_other hb
  have hcell : ∀ {i o v}, cellAt i o st = some v → ∃ b rcs ty u, g.bx i = some b ∧ (w.putObj l (.loop lp')).heap[b]? = some (.cells rcs ty (0, 0)) ∧ rcs[o]? = some u ∧ vrep B g (w.putObj l (.loop lp')) v u := fun {i o v} hc => by
    obtain ⟨b, rcs, ty, u, a1, a2, a3, a4⟩ := hs.cell hc
    exact ⟨b, rcs, ty, u, a1, (hoth b fun e => by subst e; rw [m2] at a2; cases a2).trans a2, a3, hE.vrep a4⟩
  have hrow : ∀ {i o nw ver e sz l2}, rowAt i st = some (o, nw, ver, e, sz, l2) → _ := fun {i o nw ver e sz l2} hr => hs.keepRow hE hg rfl rfl (fun b hb e => by cases e; exact hi.apart m1 hb) hr
  have hloop : ∀ {i r T' tm'}, i ≠ k → loopAt i st = some (r, T', tm') → (∀ lp0, r = some lp0 → ∃ b, g.bx i = some b ∧ (w.putObj l (.loop lp')).heap[b]? = some (.loop lp0)) ∧ ∀ {t v}, lookT t tm' = some v → vrep B g (w.putObj l (.loop lp')) v (T'.getD t undef) := fun {i r T' tm'} hik hl' => by
    obtain ⟨a1, a2⟩ := hs.loop hl'
    exact ⟨fun lp0 e => let ⟨b, c1, c2⟩ := a1 lp0 e; ⟨b, c1, (hoth b fun e => by subst e; exact hik (hi.bxinj c1 m1)).trans c2⟩, fun ht => hE.vrep (a2 ht)⟩
  refine ⟨hE, hi.evo (by simp), fun q hq => ?_, ⟨fun {i o v} hc => ?_, fun {i o nw ver e sz l2} hr => ?_, fun {i r T' tm'} hl' => ?_⟩⟩
  · obtain ⟨d1, d2, d3⟩ := dropY_spec hq
    have d4 := dropY_none hq
    refine ⟨fun {i o v} hc => hcell (by rw [← d1]; exact hc), fun {i o nw ver e sz l2} hr => hrow (by rw [← d2]; exact hr), fun {i r T' tm'} hl' => ?_⟩
    by_cases e : i = k
    · subst e; rw [d4] at hl'; cases hl'
    · exact hloop e (by rw [← d3 i e]; exact hl')
  · simp only [cellAt] at hc; exact hcell hc
  · simp only [rowAt] at hr; exact hrow hr
  · simp only [loopAt] at hl'
    split at hl'
    · rename_i hb
      have := Nat.eq_of_beq_eq_true hb
      subst this
      cases hl'
      exact ⟨fun lp0 e => by cases e; exact ⟨l, m1, hnew⟩, fun ht => hE.vrep (h2 ht)⟩
    · rename_i hb
      exact hloop (fun e => by subst e; rw [Nat.beq_refl] at hb; cases hb) hl'
end

end Go.Proofs.Ytjfaihpiohccbaa
