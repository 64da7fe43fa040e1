/- Walks by data and names, part 18: A panic in the body of a range over a function: it goes up through the function that is ranged over. Ranges over functions, 2: the statement, and what the function calls. A nil slice is a row of one's own; rows may be named anew. -/
import Derived.RangeFuncIn
import Derived.RangeFuncNested
import Derived.Test.YtbgcjnfhadhjeaaGreatQk17
import Derived.Test.YtbgcjnfhadhjeaaGreatQk14
namespace Go
set_option maxRecDepth 20000
variable {F : Fence} {n : Nat} {P : Program}
def PM (P : Program) (f : FuncId) (l : Nat) (R : Ending → World → Prop) : Exit → Act → World → Prop
 | .panic chain, a, w => a.defers = [] ∧ (∃ fn, P.funcs[f]? = some fn) ∧ R (.panicked chain) w
 | e, a, w => roundPost P l R e a w
theorem H8 {fr c : Frame} {cs : List Frame} {w : World} {chain : List PanicEntry} (hm : fr.mode = .panicking chain) (hd : fr.defers = []) {fn : Func} (hf : P.funcs[fr.fn]? = some fn) : step P (lone fr (c :: cs) w) = .next (lone (c.raise chain) cs w) :=
 step_lone_go (by simp [stepG, unwind, Frame.catches, hm, hd, hf])
theorem Jx {l : Nat} {f : FuncId} {tmps : Array Value} {assign body : Code} {w : World} {R : Ending → World → Prop} (hF : F.fn f)
  (h : assign.wpIn (F.inRound l) n P (Exit.then (fun a₁ w₁ => ∃ w₂, (Instr.beginRound l).run P w₁ = .ok () w₂ ∧ body.wpIn (F.inRound l) n P (PM P f l R) a₁ w₂) (fun _ _ _ => False))
   { tmps := tmps, defers := [] } w) :
  RoundIn F n P l f tmps assign body w R := by
 refine ⟨hF, fun c cs hr => ?_⟩
 let b : Frame := { (default : Frame) with fn := f, kind := .normal, roundOf := some l }
 have hb0 : Frame.round l f tmps assign body .normal = b.atR { tmps := tmps, defers := [] } [.code assign, .beginRound, .code body] := by
  simp [Frame.round, Frame.atR, b]
 have hr' : (F.inRound l).room ((c :: cs).length + 1 + n) := hr
 have hF' : (F.inRound l).fn b.fn := hF
 obtain ⟨e, a₁, w₁, hq, harr⟩ := h b [.beginRound, .code body] (c :: cs) rfl hF' hr'
 rw [← hb0] at harr
 cases e with
 | normal =>
  obtain ⟨w₂, hbr, hbody⟩ := hq
  have s1 : StepsIn (Machine.fenced P (F.inRound l)) P (lone (b.atR a₁ [.beginRound, .code body]) (c :: cs) w₁) (lone (b.atR a₁ [.code body]) (c :: cs) w₂) :=
   .one (fenced_calm (fr := b.atR a₁ [.beginRound, .code body]) hF' hr' rfl) (stepR_beginRound rfl hbr)
  obtain ⟨e₂, a₂, w₃, hq₂, harr₂⟩ := hbody b [] (c :: cs) rfl hF' hr'
  cases e₂ with
  | normal =>
   obtain ⟨v, w₄, hend, hR⟩ := hq₂
   exact ⟨.returned v, w₄, hR, (StepsIn.trans harr s1).trans (StepsIn.trans harr₂ (.one (fenced_calm (fr := b.atR a₂ []) hF' hr' rfl) (stepR_round_end rfl rfl hend)))⟩
  | ret =>
   obtain ⟨v, w₄, hend, hR⟩ := hq₂
   obtain ⟨k₁, hs⟩ := harr₂.2 rfl
   exact ⟨.returned v, w₄, hR, (StepsIn.trans harr s1).trans (StepsIn.trans hs (.one (fenced_calm (fr := b.atR a₂ (.code .ret :: k₁)) hF' hr' rfl) (stepR_round_ret rfl rfl hend)))⟩
  | exit id =>
   obtain ⟨v, w₄, hend, hR⟩ := hq₂
   obtain ⟨k₁, hk, hs⟩ := harr₂.2 rfl rfl
   exact ⟨.returned v, w₄, hR, (StepsIn.trans harr s1).trans (StepsIn.trans hs (.one (fenced_calm (fr := b.atR a₂ (.code (.exit id) :: k₁)) hF' hr' rfl) (stepR_round_exit rfl rfl hk hend)))⟩
  | goto t =>
   obtain ⟨v, w₄, hend, hR⟩ := hq₂
   obtain ⟨k₁, hk, hs⟩ := harr₂.2 rfl rfl
   exact ⟨.returned v, w₄, hR, (StepsIn.trans harr s1).trans (StepsIn.trans hs (.one (fenced_calm (fr := b.atR a₂ (.code (.goto t) :: k₁)) hF' hr' rfl) (stepR_round_goto rfl rfl hk hend)))⟩
  | panic chain =>
   obtain ⟨hd, ⟨fn, hfn⟩, hR⟩ := hq₂
   obtain ⟨todo, hs⟩ := harr₂
   refine ⟨.panicked chain, w₃, hR, (StepsIn.trans harr s1).trans (StepsIn.trans hs (.one (fenced_calm (fr := { b.atR a₂ todo with mode := .panicking chain }) hF' hr' ?_) (H8 (fn := fn) rfl hd hfn)))⟩
   simp [Frame.about, Frame.atR, hd]
  | outgrown => exact hq₂.elim
 | exit id => exact hq.elim
 | goto t => exact hq.elim
 | ret => exact hq.elim
 | panic chain => exact hq.elim
 | outgrown => exact hq.elim
end Go

namespace Go.Proofs.YtbgcjnfhadhjeaaGreat
open Go.RowKit
def AbT (P : Program) (cx : Cx) (Q : VE → St → Prop) (s : St) : Option Code → Prop
 | none => Q .normal s
 | some c => VW P cx c s Q
def FR (P : Program) (cx : Cx) (k : Nat) (T : Array Value) (Q : VE → St → Prop) : RC → List E → Nat → Prop
 | .ret _, st', nb' => ∃ R' tm' tm2 st2, Au k st' = some (some R', T, tm') ∧ (R'.state ≠ .busy) ∧ AA cx.N tm' = some (.yl k) ∧ Hp cx.N tm' = some tm2 ∧ DX k st' = some st2 ∧ AbT P cx Q ⟨tm2, st2, nb'⟩ R'.pending
 | .panic v, st', nb' => ∃ R' tm' tm2 st2, Au k st' = some (some R', T, tm') ∧ AA cx.N tm' = some (.yl k) ∧ Hp cx.N tm' = some tm2 ∧ DX k st' = some st2 ∧ Q (.panic v) ⟨tm2, st2, nb'⟩
theorem AC.dropped {B : Nat} {g : G} {w : World} {st q : List E} {k : Nat} (h : AC B g w st) (hq : DX k st = some q) : AC B g w q := by
 obtain ⟨d1, d2, d3⟩ := Fq hq
 refine ⟨fun {i o v} hc => h.cell (by rw [← d1]; exact hc), fun {i o nw ver e sz l2} hr => h.row (by rw [← d2]; exact hr), fun {i r T' tm'} hl => ?_⟩
 by_cases e : i = k
 ·subst e; rw [Eu hq] at hl; cases hl
 ·exact h.loop (by rw [← d3 i e]; exact hl)
theorem Lb {fn : FuncId} {n : Nat} {g0 g : G} {w0 w : World} {a : Act} {P : Program} {cx : Cx} {tm : List (Nat × V)} {st : List E} {nb : Nat} {Q : VE → St → Prop} {gop : Operand} {ps : Array Tmp} {assign body : Code} {v : V} {f : FuncId} {az : List V}
  (hrd : cx.rd = none) (hM : cx.M.isSome = true) (hdf : cx.df = []) (hx : Af ⟨tm, st, nb⟩ gop = some v) (hf : GL v [.yl nb] = some (f, az)) {tm0 : List (Nat × V)} (htm0 : Hp cx.N tm = some tm0) (hmn : Nat.ble cx.m nb = true)
  (hc : ∀ (R : Loop) (T : Array Value), Fu cx.N ps assign body R T → R.fn = fn → SP P f cx.B cx.m az (.y nb (some R) T ((cx.N, .yl nb) :: tm0) :: st) (nb + 1) (FR P cx nb T Q))
  (hE : Ei cx.sp cx.m g0 w0 g w) (hS : Dg cx g a w ⟨tm, st, nb⟩) :
  ∃ (l : Nat) (mark : List Deferred) (w₁ : World) (d : Deferred) (w₁' : World) (f : FuncId) (args : Array Value) (w₂ : World),
   (Instr.enterLoop fn a.tmps ps assign body (FW cx.rd).round).run P w = .ok (l, mark) w₁ ∧
   (resolve a.eval (rangeCall gop l) 0).run P w₁ = .ok d w₁' ∧
   (∀ f', Target.leads P w₁' d.target d.args = some f' → (FW cx.rd).fn f') ∧
   (invoke d.target d.args).run P w₁' = .ok (.enter f args) w₂ ∧
   ((FW cx.rd).depth.isSome = true → 1 ≤ n) ∧
   CallsIn (FW cx.rd) (n - 1) P f args w₂ (rangePost (FW cx.rd) n P l (EY cx g0 w0 Q) { a with defers := mark ++ a.defers }) := by
 have hmn := Nat.le_of_ble_eq_true hmn
 rw [show (FW cx.rd).round = none from hrd]
 obtain ⟨R, hR⟩ : ∃ R : Loop, R = { state := .ready, pending := none, fn, tmps := a.tmps, params := ps, assign, body, defers := w.heap.size } := ⟨_, rfl⟩
 let wD := w.alloc (.deferred (some []))
 let T := a.tmps.push (.func (.yield (w.heap.size + 1)) #[] #[])
 have hOk : Fu cx.N ps assign body R T := by
  subst hR
  refine ⟨rfl, rfl, rfl, rfl, rfl, hS.size, fun t ht => ?_⟩
  simp only [T, Array.getD_eq_getD_getElem?]
  rw [Array.getElem?_push, if_neg (by rw [hS.size]; omega)]
 have hbD : Below w.heap.size w wD := (Below.refl _ w).alloc (Nat.le_refl _) _
 have hN : Qt cx.B g w g wD none := ⟨BZ.of_below hS.inv hbD, fun b hb => hbD.block b hb, fun _ _ => ⟨rfl, rfl, rfl⟩⟩
 have hsD : AC cx.B g wD st := hS.st.newO hN hS.inv (fun _ h => by cases h)
 have hiD : CG cx.B nb g wD := hS.inv.evo hbD.size
 have hup := hiD.up (Nat.le_succ nb)
 obtain ⟨hNew, hi1⟩ := Vj hup hiD.free (Nat.lt_succ_self _) (.loop R)
 have hszD : wD.heap.size = w.heap.size + 1 := by simp [wD]
 generalize hw1 : wD.alloc (.loop R) = w1 at hNew hi1
 generalize hg1 : g.addBx nb wD.heap.size = g1 at hNew hi1
 have hE1 : BZ cx.B g w g1 w1 := hN.evo.trans hNew.evo
 have hb1 : g1.bx nb = some (w.heap.size + 1) := by subst hg1; simp [G.addBx, hszD]
 have hl1 : w1.heap[w.heap.size + 1]? = some (.loop R) := by
  subst hw1; have := World.alloc_heap_new wD (.loop R); rwa [hszD] at this
 have hTN : T.getD cx.N undef = .func (.yield (w.heap.size + 1)) #[] #[] := by
  simp only [T, Array.getD_eq_getD_getElem?]
  rw [Array.getElem?_push, if_pos (by rw [hS.size])]; rfl
 have hs1 : AC cx.B g1 w1 (.y nb (some R) T ((cx.N, .yl nb) :: tm0) :: st) := by
  refine AC.cons ⟨fun h => by simp [Aq] at h, fun h => by simp [Az] at h, fun {i r T' tm'} hl => ?_⟩ (hsD.new hNew hup hiD.free)
  simp only [Au] at hl
  split at hl
  ·rename_i hb
   have := Nat.eq_of_beq_eq_true hb
   subst this
   cases hl
   refine ⟨fun lp e => by cases e; exact ⟨_, hb1, hl1⟩, fun {t v} ht => ?_⟩
   simp only [AA] at ht
   split at ht
   ·rename_i hb2
    have := Nat.eq_of_beq_eq_true hb2
    subst this
    cases ht
    rw [hTN]; simp only [vrep]; exact ⟨_, hb1, rfl⟩
   ·obtain ⟨h1, h2⟩ := Gc htm0 ht
    rw [hOk.low t h1, hR]
    exact hE1.vrep (hS.tm h2)
  ·cases hl
 have hyl : vreps cx.B g1 w1 [.yl nb] [.func (.yield (w.heap.size + 1)) #[] #[]] := by
  simp only [vreps]; exact ⟨_, [], rfl, by simp only [vrep]; exact ⟨_, hb1, rfl⟩, rfl⟩
 obtain ⟨first, cap, hu, zs, hz, hzs⟩ := Pe hf (hE1.vrep (hS.eval hx)) hyl
 have hcb := hc R T hOk (by rw [hR])
 have hcall := hcb.2 g1 w1 zs hs1 hi1 hzs
 have hmem : ∀ (r : Ending → World → Prop), Calls P f zs.toArray w1 r → CallsIn (FW cx.rd) (n - 1) P f zs.toArray w1 r := fun r h =>
  ⟨trivial, fun cs _ => by
   obtain ⟨e, w', fr, hr, hcm, hx⟩ := h cs
   refine ⟨e, w', fr, hr, ?_, hx⟩
   have := comesIn_wide.2 hcm
   cases e with
   | returned v => exact StepsIn.mono (fun m _ => Bh P cx.rd m) this
   | panicked ch => exact StepsIn.mono (fun m _ => Bh P cx.rd m) this
   | outgrown => exact this⟩
 have hw1' : w1 = (w.alloc (.deferred (some []))).alloc (.loop { state := .ready, pending := none, fn, tmps := a.tmps, params := ps, assign, body, defers := w.heap.size }) := by rw [← hw1, hR]
 refine ⟨w.heap.size + 1, [{ target := .collected w.heap.size, args := #[] }], w1, { target := .fn (.func f) cap, args := first ++ #[.func (.yield (w.heap.size + 1)) #[] #[]] }, w1, f, zs.toArray, w1, ?_, ?_, fun _ _ => trivial, ?_, (fun h => by cases h), ?_⟩
 ·rw [hw1']; exact run_enterLoop_outer _ _ _ _ _
 ·simp only [resolve, hu]; simp [Act.eval, Deferred.ofValue]
 ·rw [← hz]
  simp [invoke, hcb.1]
 refine (hmem _ hcall).mono ?_
 have hpD : g1.prot w.heap.size := by
  rintro (h | ⟨k, h⟩ | ⟨k, h⟩)
  ·subst hg1; exact Nat.lt_irrefl _ (hS.inv.exlt h)
  ·subst hg1; simp only [G.addBx] at h
   split at h
   ·rw [hszD] at h; simp only [Option.some.injEq] at h; omega
   ·exact Nat.lt_irrefl _ (hS.inv.bxlt h).1
  ·subst hg1; exact Nat.lt_irrefl _ (hS.inv.rblt h).1
 have hDl : w1.heap[w.heap.size]? = some (.deferred (some [])) := by
  rw [← hw1]; exact (Below.heap_alloc _ _ _ (by simp [hszD])).trans (World.alloc_heap_new w _)
 rintro e w3 ⟨g3, st3, nb3, r, x1, x2, x3, x4, x5, x6⟩
 have hE3 : Ei False cx.m g w g3 w3 := (hE1.ext False cx.m).trans2 x1
 have hkey : ∀ {R' : Loop} {tm' : List (Nat × V)}, Au nb st3 = some (some R', T, tm') → AA cx.N tm' = some (.yl nb) → ∃ l, l = w.heap.size + 1 ∧ g3.bx nb = some l ∧ w3.heap[l]? = some (.loop R') := fun {R' tm'} h1 h2 => by
  obtain ⟨l, a1, a2, _⟩ := Ks x3 x2 h1
  have := (x2.loop h1).2 h2
  rw [hTN] at this
  simp only [vrep] at this
  obtain ⟨l', b1, b2⟩ := this
  rw [a1] at b1; cases b1
  simp only [Value.func.injEq, Fn.yield.injEq, and_true] at b2
  exact ⟨l, b2.symm, a1, a2⟩
 have hSim : ∀ {w4 : World} {R' : Option Loop} {tm' tm2 : List (Nat × V)} {st2 : List E} {nb4 : Nat}, BZ cx.B g3 w3 g3 w4 → Au nb st3 = some (R', T, tm') → Hp cx.N tm' = some tm2 → AC cx.B g3 w4 st2 → CG cx.B nb4 g3 w4 →
   Dg cx g3 { a with defers := [{ target := .collected w.heap.size, args := #[] }] ++ a.defers } w4 ⟨tm2, st2, nb4⟩ := fun {w4 R' tm' tm2 st2 nb4} hE4 h1 h2 h3 h4 => by
  refine ⟨hS.size, fun {t v} ht => ?_, h3, h4, ?_⟩
  ·obtain ⟨k1, k2⟩ := Gc h2 ht
   have := (x2.loop h1).2 k2
   rw [hOk.low t k1, hR] at this
   exact hE4.vrep this
  ·obtain ⟨hm0, bs, rr, hds, hnd, hbs, hrr⟩ := hS.defers
   rw [hdf] at hrr
   simp only [Mr] at hrr
   subst hrr
   have hlt : ∀ b ∈ bs, b < w.heap.size := fun b hb => (Array.getElem?_eq_some_iff.1 (hbs b hb).2.2).1
   refine ⟨fun m h => Nat.le_trans (hm0 m h) (Nat.le_trans hE3.size hE4.size), w.heap.size :: bs, [], by simp [hds], ?_, fun b hb => ?_, by rw [hdf]; simp only [Mr]⟩
   ·simp only [List.nodup_cons]
    exact ⟨fun h => Nat.lt_irrefl _ (hlt _ h), hnd⟩
   ·rcases List.mem_cons.1 hb with rfl | hb
    ·have q1 := x1.blk _ (Array.getElem?_eq_some_iff.1 hDl).1 hpD
     have q2 := hE4.blk w.heap.size (Array.getElem?_eq_some_iff.1 (q1.2.trans hDl)).1 q1.1
     obtain ⟨M, hM⟩ := Option.isSome_iff_exists.1 hM
     exact ⟨q2.1, ⟨M, hM, hm0 M hM⟩, q2.2.trans (q1.2.trans hDl)⟩
    ·obtain ⟨y1, y2, y3⟩ := hbs b hb
     have q1 := hE3.blk _ (hlt b hb) y1
     have q2 := hE4.blk b (Array.getElem?_eq_some_iff.1 (q1.2.trans y3)).1 q1.1
     exact ⟨q2.1, y2, q2.2.trans (q1.2.trans y3)⟩
 cases r with
 | ret v =>
  obtain ⟨u, rfl, _⟩ := x4
  obtain ⟨R', tm', tm2, st2, h1, h2, h3, h4, h5, h6⟩ := x5
  obtain ⟨l, rfl, b1, b2⟩ := hkey h1 h3
  obtain ⟨l', c1, c2, c3⟩ := Ks x3 x2 h1
  rw [b1] at c1; cases c1
  obtain ⟨d1, d2, d3, _⟩ := c3 { R' with state := .exhausted }
  refine ⟨R'.pending, _, run_endLoop b2 h2, ?_⟩
  have hsim := hSim d1 h1 h4 (d3 _ h5) d2
  have hext := (hE.trans2 hE3).trans d1
  clear d1 d2 d3 c3
  generalize w3.putObj (w.heap.size + 1) (.loop { R' with state := .exhausted }) = w4 at hext hsim ⊢
  cases hp : R'.pending with
  | none =>
   rw [hp] at h6
   exact ⟨g3, _, .normal, hext, hsim, rfl, h6⟩
  | some c =>
   rw [hp] at h6
   exact h6 n g0 w0 g3 _ _ hext hsim
 | panic v =>
  obtain ⟨u, rfl, hu⟩ := x4
  obtain ⟨R', tm', tm2, st2, h1, h3, h4, h5, h6⟩ := x5
  exact ⟨g3, _, .panic v, hE.trans2 hE3, hSim (BZ.refl _ _ _) h1 h4 (x2.dropped h5) x3, ⟨u, rfl, hu⟩, h6⟩
theorem Oa {P : Program} {cx : Cx} {tm : List (Nat × V)} {st : List E} {nb : Nat} {Q : VE → St → Prop} {gop : Operand} {ps : Array Tmp} {assign body : Code} {v : V} {f : FuncId} {az : List V}
  (hrd : cx.rd = none) (hM : cx.M.isSome = true) (hdf : cx.df = []) (hx : Af ⟨tm, st, nb⟩ gop = some v) (hf : GL v [.yl nb] = some (f, az)) {tm0 : List (Nat × V)} (htm0 : Hp cx.N tm = some tm0) (hmn : Nat.ble cx.m nb = true)
  (hc : ∀ (R : Loop) (T : Array Value), Fu cx.N ps assign body R T → SP P f cx.B cx.m az (.y nb (some R) T ((cx.N, .yl nb) :: tm0) :: st) (nb + 1) (FR P cx nb T Q)) :
  VW P cx (.rangeFunc gop ps assign body) ⟨tm, st, nb⟩ Q := fun _ _ _ _ _ _ hE hS =>
 wpIn_rangeFunc fun _ _ => Lb hrd hM hdf hx hf htm0 hmn (fun R T h _ => hc R T h) hE hS
theorem KI {f0 : FuncId} {F : Fence} {n : Nat} {P : Program} {g : Operand} {ps : Array Tmp} {assign body : Code} {Q : Exit → Act → World → Prop} {a : Act} {w : World}
  (h : ∃ (l : Nat) (mark : List Deferred) (w₁ : World) (d : Deferred) (w₁' : World) (f : FuncId) (args : Array Value) (w₂ : World),
   (Instr.enterLoop f0 a.tmps ps assign body F.round).run P w = .ok (l, mark) w₁ ∧
   (resolve a.eval (rangeCall g l) 0).run P w₁ = .ok d w₁' ∧
   (∀ f', Target.leads P w₁' d.target d.args = some f' → F.fn f') ∧
   (invoke d.target d.args).run P w₁' = .ok (.enter f args) w₂ ∧
   (F.depth.isSome = true → 1 ≤ n) ∧
   CallsIn F (n - 1) P f args w₂ (rangePost F n P l Q { a with defers := mark ++ a.defers })) :
  KJ f0 F n P (Code.rangeFunc g ps assign body) Q a w := by
 intro b k cs hro hb h0 hr
 obtain ⟨l, mark, w₁, d, w₁', f, args, w₂, he, hres, hlead, hinv, hn, hF, hcall⟩ := h
 rw [← hro, ← h0] at he
 have h0 : (lone (b.atR a (.code (.rangeFunc g ps assign body) :: k)) cs w).fenced P F := by
  refine fenced_lone (.inl hb) (fun f' hf' => hlead f' ?_) (Fence.room_le hr (by omega))
  have hev := Frame.eval_atR b a (.code (.rangeFunc g ps assign body) :: k)
  simp only [Frame.atR] at hev
  simp only [Frame.about, Frame.atR, he, hev, hres] at hf'
  exact hf'
 have henter := stepR_rangeFunc (P := P) (b := b) (a := a) (k := k) (cs := cs) (w := w) he hres hinv
 have hroom : F.room ((b.atR { a with defers := mark ++ a.defers } (.inRangeFunc l :: k) :: cs).length + 1 + (n - 1)) := Fence.room_enter hr hn
 obtain ⟨e, w₃, fr, hR, hsteps, hfn, hleave⟩ := hcall (b.atR { a with defers := mark ++ a.defers } (.inRangeFunc l :: k) :: cs) hroom
 cases e with
 | outgrown =>
  obtain ⟨a₀, w₀, hq⟩ := hR
  exact ⟨.outgrown, a₀, w₀, hq, .inr (Outgrown.of_steps (.one henter) hsteps)⟩
 | returned v =>
  have hl : (lone fr (b.atR { a with defers := mark ++ a.defers } (.inRangeFunc l :: k) :: cs) w₃).fenced P F := fenced_leaving (hfn ▸ hF) hroom hleave
  obtain ⟨jump, w₄, hend, hj⟩ := hR
  have sback : StepsIn (Machine.fenced P F) P (lone (b.atR a (.code (.rangeFunc g ps assign body) :: k)) cs w) (lone (b.atR { a with defers := mark ++ a.defers } ((jump.map Item.code).toList ++ k)) cs w₄) := by
   refine .head h0 henter (StepsIn.trans hsteps (.head hl ?_ (.one (fenced_calm (fr := b.atR { a with defers := mark ++ a.defers } (.endRangeFunc l :: k)) hb hr rfl) (stepR_endRangeFunc hend))))
   rw [← finish_atR_inRangeFunc l v]; exact step_leave_returned hleave
  cases jump with
  | none => exact ⟨.normal, _, w₄, hj, sback⟩
  | some c =>
   obtain ⟨e', a'', w₅, hq, harr⟩ := hj b k cs hro hb hr
   exact ⟨e', a'', w₅, hq, .of_steps sback harr⟩
 | panicked chain =>
  have hl : (lone fr (b.atR { a with defers := mark ++ a.defers } (.inRangeFunc l :: k) :: cs) w₃).fenced P F := fenced_leaving (hfn ▸ hF) hroom hleave
  refine ⟨.panic chain, _, w₃, hR, .inRangeFunc l :: k, .head h0 henter (StepsIn.trans hsteps (.one hl ?_))⟩
  rw [← Frame.raise_atR]; exact step_leave_panicked hleave
theorem Tk {P : Program} {f0 : FuncId} {fn0 : Func} (hf0 : P.funcs[f0]? = some fn0) {cx : Cx} {tm : List (Nat × V)} {st : List E} {nb : Nat} {Q : VE → St → Prop} {gop : Operand} {ps : Array Tmp} {assign body : Code} {v : V} {f : FuncId} {az : List V}
  (hrd : cx.rd = none) (hM : cx.M.isSome = true) (hdf : cx.df = []) (hx : Af ⟨tm, st, nb⟩ gop = some v) (hf : GL v [.yl nb] = some (f, az)) {tm0 : List (Nat × V)} (htm0 : Hp cx.N tm = some tm0) (hmn : Nat.ble cx.m nb = true)
  (hc : ∀ (R : Loop) (T : Array Value), Fu cx.N ps assign body R T → (∃ fn, P.funcs[R.fn]? = some fn) → SP P f cx.B cx.m az (.y nb (some R) T ((cx.N, .yl nb) :: tm0) :: st) (nb + 1) (FR P cx nb T Q)) :
  SO P f0 cx (.rangeFunc gop ps assign body) ⟨tm, st, nb⟩ Q := fun n g0 w0 g a w hE hS =>
 KI (Lb hrd hM hdf hx hf htm0 hmn (fun R T h e => hc R T h ⟨fn0, by rw [e]; exact hf0⟩) hE hS)
def pT : List Tmp → List V → List (Nat × V) → List (Nat × V)
 | p :: ps, v :: vs, tm => pT ps vs ((p, v) :: tm)
 | _, _, tm => tm
theorem Ro {B N : Nat} {g : G} {w : World} : ∀ {ps : List Tmp} {vs : List V} {us : List Value} {tm : List (Nat × V)} {A : Array Value}, ps.length = vs.length → vreps B g w vs us → ps.all (Nat.blt · N) = true → A.size = N →
  (∀ {t v}, AA t tm = some v → vrep B g w v (A.getD t undef)) →
  ((ps.zip us).foldl (fun t (p, v) => t.setIfInBounds p v) A).size = N ∧ ∀ {t v}, AA t (pT ps vs tm) = some v → vrep B g w v (((ps.zip us).foldl (fun t (p, v) => t.setIfInBounds p v) A).getD t undef)
 | [], [], us, tm, A, _, hu, _, hA, h => by simp only [vreps] at hu; subst hu; exact ⟨hA, fun ht => h ht⟩
 | p :: ps, v :: vs, us, tm, A, hl, hu, hp, hA, h => by
  simp only [vreps] at hu
  obtain ⟨y, ys, rfl, k1, k2⟩ := hu
  simp only [List.all_cons, Bool.and_eq_true] at hp
  simp only [List.zip_cons_cons, List.foldl_cons, pT]
  refine Ro (by simpa using hl) k2 hp.2 (by simpa using hA) fun {t x} ht => ?_
  simp only [AA] at ht
  simp only [Array.getD_eq_getD_getElem?]
  split at ht
  ·rename_i hb
   have := Nat.eq_of_beq_eq_true hb
   subst this
   cases ht
   rw [Array.getElem?_setIfInBounds_self_of_lt (by rw [hA]; exact Eg hp.1)]
   exact k1
  ·rename_i hb
   rw [Array.getElem?_setIfInBounds_ne (fun e => by subst e; rw [Nat.beq_refl] at hb; cases hb), ← Array.getD_eq_getD_getElem?]
   exact h ht
 | [], _ :: _, _, _, _, hl, _, _, _, _ => by simp at hl
 | _ :: _, [], _, _, _, hl, _, _, _, _ => by simp at hl
def Wa (P : Program) (cxb : Cx) (body : Code) (k : Nat) (R : Loop) (T : Array Value) (K : VE → St → Prop) : VE → St → Prop
 | .normal, s1 => ∃ tm1, Au k s1.st = some (some R, T, tm1) ∧ AA cxb.N tm1 = some (.yl k) ∧ VW P cxb body ⟨s1.tm, .y k (some { R with state := .busy }) T tm1 :: s1.st, s1.nb⟩ K
 | _, _ => False
def VU (P : Program) (cx : Cx) (ops rest : List Oper) (t : Tmp) (N k nbI : Nat) (R : Loop) (T TI : Array Value) (Q : VE → St → Prop) (c : Option Code) (b : Bool) (s2 : St) : Prop :=
 ∃ tm1 tm2, Au k s2.st = some (some { R with state := .busy }, T, tm1) ∧ AA N tm1 = some (.yl k) ∧ Au nbI s2.st = some (none, TI, tm2) ∧
  VL P cx ops rest ⟨(t, .d (.lit (.bool b))) :: tm2, .y k (some { R with state := if b then .ready else .done, pending := c }) T tm1 :: s2.st, s2.nb⟩ Q
def OG (P : Program) (cx : Cx) (ops rest : List Oper) (t : Tmp) (N k nbI : Nat) (R : Loop) (T TI : Array Value) (Q : VE → St → Prop) : VE → St → Prop
 | .normal, s2 => VU P cx ops rest t N k nbI R T TI Q none true s2
 | .ret, s2 => VU P cx ops rest t N k nbI R T TI Q (some .ret) false s2
 | .exit id, s2 => VU P cx ops rest t N k nbI R T TI Q (some (.exit id)) false s2
 | .goto id, s2 => VU P cx ops rest t N k nbI R T TI Q (some (.goto id)) false s2
 | .panic v, s2 => (∃ fn, P.funcs[R.fn]? = some fn) ∧ ∃ tm1 tm2, Au k s2.st = some (some { R with state := .busy }, T, tm1) ∧ Au nbI s2.st = some (none, TI, tm2) ∧ Q (.panic v) ⟨tm2, s2.st, s2.nb⟩
theorem Td {P : Program} {cx : Cx} {s : St} {Q : VE → St → Prop} {ops rest : List Oper} {t : Tmp} {x : Operand} {xs : Array Operand} {tys : Array TypeId} {ty : TypeId} {pos : String} {af : Array Edge} {gd : Option (Nat × Bool)} {k N : Nat} {vs : List V}
  {ps : Array Tmp} {assign body : Code} {R : Loop} {T : Array Value} {tmO tm0 : List (Nat × V)}
  (hdf : cx.df = []) (hx : Af s x = some (.yl k)) (hv : AY s xs.toList = some vs) (hl : Au k s.st = some (some R, T, tmO)) (hOk : Fu N ps assign body R T) (hlk : AA N tmO = some (.yl k)) (hlo : Hp N tmO = some tm0)
  (hps : ps.toList.length = vs.length) (hpb : ps.toList.all (Nat.blt · N) = true) (hw : Wd ops s.tm gd) (ht : Nat.blt t cx.N = true)
  (h : ∀ l TI, VW P ⟨N, some l, cx.B, cx.m, none, []⟩ assign ⟨pT ps.toList vs tm0, .y s.nb none TI s.tm :: s.st, s.nb + 1⟩ (Wa P ⟨N, some l, cx.B, cx.m, none, []⟩ body k R T (OG P cx ops rest t N k s.nb R T TI Q))) :
  VL P cx ops (⟨some t, .call { callee := .value x, args := xs, argTypes := tys }, ty, pos, af, gd⟩ :: rest) s Q := fun n g0 w0 g a w hE hS => by
 simp only [BH]
 rw [if_pos (Wd.wanted (o := ⟨some t, _, ty, pos, af, gd⟩) hS hw)]
 refine ⟨fun _ _ => trivial, ?_⟩
 rw [Oper.semAt_plain (FW cx.rd) _ _ (by intro c e; cases e)]
 have hxe := hS.eval hx
 have hve := hS.evals hv
 simp only [vrep] at hxe
 obtain ⟨b, hb, hxe⟩ := hxe
 obtain ⟨b', hb', hlb, _⟩ := Ks hS.inv hS.st hl
 rw [hb] at hb'; cases hb'
 have hTN : T.getD N undef = .func (.yield b) #[] #[] := by
  have := (hS.st.loop hl).2 hlk
  simp only [vrep] at this
  obtain ⟨b2, e1, e2⟩ := this
  rw [hb] at e1; cases e1; exact e2
 have hus : (xs.toList.map a.eval).length = vs.length := C0 hve
 have hrun : (execOp a.eval ⟨some t, .call { callee := .value x, args := xs, argTypes := tys }, ty, pos, af, gd⟩).run P w = .ok (.round b R.fn ((R.params.zip (xs.map a.eval)).foldl (fun t (p, v) => t.setIfInBounds p v) R.tmps) R.assign R.body) w := by
  have := run_yield (P := P) (args := xs.map a.eval) hlb (by have h1 := hps; have h2 := hus; simp only [Array.length_toList, List.length_map] at h1 h2; rw [hOk.params, Array.size_map]; omega)
  simp only [execOp, resolve, hxe, Deferred.ofValue]
  simpa [invoke] using this
 rw [hrun, Oper.uponIn_round]
 refine ⟨(fun h => by cases h), ?_⟩
 have hin : ∀ l, (FW cx.rd).inRound l = FW (some l) := fun l => by simp [FW, Fence.inRound]
 have hS1 : Dg ⟨N, some b, cx.B, cx.m, none, []⟩ g { tmps := (R.params.zip (xs.map a.eval)).foldl (fun t (p, v) => t.setIfInBounds p v) R.tmps, defers := [] } w ⟨pT ps.toList vs tm0, .y s.nb none a.tmps s.tm :: s.st, s.nb + 1⟩ := by
  have hz : (R.params.zip (xs.map a.eval)).foldl (fun t (p, v) => t.setIfInBounds p v) R.tmps = (ps.toList.zip (xs.toList.map a.eval)).foldl (fun t (p, v) => t.setIfInBounds p v) R.tmps := by
   rw [hOk.params, ← Array.foldl_toList]; simp
  obtain ⟨z1, z2⟩ := Ro (tm := tm0) hps hve hpb hOk.size fun {t v} ht => by
   obtain ⟨q1, q2⟩ := Gc hlo ht
   rw [← hOk.low t q1]; exact (hS.st.loop hl).2 q2
  rw [hz]
  refine ⟨z1, fun ht => z2 ht, AC.cons ⟨fun h => by simp [Aq] at h, fun h => by simp [Az] at h, fun {i r T' tm'} hl' => ?_⟩ hS.st, hS.inv.up (Nat.le_succ _), ⟨fun _ h => by (cases h), [], [], rfl, by simp, by simp, rfl⟩⟩
  simp only [Au] at hl'
  split at hl'
  ·cases hl'; exact ⟨fun _ e => (by cases e), fun ht => hS.tm ht⟩
  ·cases hl'
 have hprot : ∀ {g2 : G} {w2 : World}, Ei False cx.m g w g2 w2 → L0 cx g2 w2 a.defers := fun {g2 w2} hx2 => by
  obtain ⟨hm0, bs, rr, hds, hnd, hbs, hrr⟩ := hS.defers
  rw [hdf] at hrr
  simp only [Mr] at hrr
  refine ⟨fun m h => Nat.le_trans (hm0 m h) hx2.size, bs, rr, hds, hnd, fun b hb => ?_, by rw [hdf]; simp only [Mr]; exact hrr⟩
  obtain ⟨y1, y2, y3⟩ := hbs b hb
  have q1 := hx2.blk _ (Array.getElem?_eq_some_iff.1 y3).1 y1
  exact ⟨q1.1, y2, q1.2.trans y3⟩
 refine Jx trivial ?_
 rw [hin, hOk.assign, hOk.body]
 refine wpIn_mono (h b a.tmps (n - 1) g w g _ w (Ei.refl _ _ _ _) hS1) ?_
 rintro e a1 w1 ⟨g1, s1, e1, hE1, hS1', he1, hq1⟩
 cases e1 with
 | exit id => exact hq1.elim
 | goto l => exact hq1.elim
 | ret => exact hq1.elim
 | panic v => exact hq1.elim
 | normal =>
 simp only [BV] at he1; subst he1
 obtain ⟨tm1, f1, f2, f3⟩ := hq1
 have tie : ∀ {g2 : G} {w2 : World} {st2 : List E} {nb2 : Nat} {R2 : Loop} {tm2 : List (Nat × V)}, CG cx.B nb2 g2 w2 → AC cx.B g2 w2 st2 → Au k st2 = some (some R2, T, tm2) → AA N tm2 = some (.yl k) →
   w2.heap[b]? = some (.loop R2) ∧ ∀ lp', BZ cx.B g2 w2 g2 (w2.putObj b (.loop lp')) ∧ CG cx.B nb2 g2 (w2.putObj b (.loop lp')) ∧ AC cx.B g2 (w2.putObj b (.loop lp')) (.y k (some lp') T tm2 :: st2) := fun {g2 w2 st2 nb2 R2 tm2} hi2 hs2 hl2 hy2 => by
  obtain ⟨l, a1, a2, a3⟩ := Ks hi2 hs2 hl2
  have := (hs2.loop hl2).2 hy2
  rw [hTN] at this
  simp only [vrep] at this
  obtain ⟨l', b1, b2⟩ := this
  rw [a1] at b1; cases b1
  simp only [Value.func.injEq, Fn.yield.injEq, and_true] at b2
  subst b2
  exact ⟨a2, fun lp' => ⟨(a3 lp').1, (a3 lp').2.1, (a3 lp').2.2.2⟩⟩
 obtain ⟨t1, t2⟩ := tie hS1'.inv hS1'.st f1 f2
 obtain ⟨u1, u2, u3⟩ := t2 { R with state := .busy }
 refine ⟨_, run_beginRound t1 hOk.state, ?_⟩
 refine wpIn_mono (f3 (n - 1) g w g1 a1 _ (hE1.trans u1) (hS1'.same u1 u3 u2)) ?_
 rintro e a2 w2 ⟨g2, s2, e2, hE2, hS2, he2, hq2⟩
 have fin : ∀ (c : Option Code) (bb : Bool), c.isNone = bb → VU P cx ops rest t N k s.nb R T a.tmps Q c bb s2 → ∃ v w', (Instr.endRound b c).run P w2 = .ok v w' ∧ BH (FW cx.rd) n P ops.toArray (EY cx g0 w0 Q) rest (a.put (some t) v) w' := fun c bb hcb hk => by
  obtain ⟨tm1', tm2', h1, h2, h3, h4⟩ := hk
  obtain ⟨v1, v2⟩ := tie hS2.inv hS2.st h1 h2
  obtain ⟨x1, x2, x3⟩ := v2 { R with state := if bb then .ready else .done, pending := c }
  have hend := run_endRound (P := P) c v1
  rw [hcb] at hend
  refine ⟨_, _, hend, ?_⟩
  have hExt := (hE2.trans x1).unm
  have hSI : Dg cx g2 a (w2.putObj b (.loop { R with state := if bb then .ready else .done, pending := c })) ⟨tm2', .y k (some { R with state := if bb then .ready else .done, pending := c }) T tm1' :: s2.st, s2.nb⟩ :=
   ⟨hS.size, fun ht => x1.vrep ((hS2.st.loop h3).2 ht), x3, x2, hprot hExt⟩
  exact h4 n g0 w0 g2 _ _ (hE.trans2 hExt) (hSI.put (BZ.refl _ _ _) (Nat.le_of_ble_eq_true ht) x3 x2 (by simp only [vrep, drep]))
 cases e2 with
 | normal => simp only [BV] at he2; subst he2; exact fin none true rfl hq2
 | ret => simp only [BV] at he2; subst he2; exact fin _ false rfl hq2
 | exit id => simp only [BV] at he2; subst he2; exact fin _ false rfl hq2
 | goto l => simp only [BV] at he2; subst he2; exact fin _ false rfl hq2
 | panic v =>
  obtain ⟨uu, rfl, huu⟩ := he2
  obtain ⟨hfn, tm1', tm2', h1, h3, h4⟩ := hq2
  have hExt := hE2.unm
  have hSI : Dg cx g2 a w2 ⟨tm2', s2.st, s2.nb⟩ := ⟨hS.size, fun ht => (hS2.st.loop h3).2 ht, hS2.st, hS2.inv, hprot hExt⟩
  obtain ⟨_, bs, rr, hds, _, hbs, hrr⟩ := hS2.defers
  simp only [Mr] at hrr
  have hbn : bs = [] := by
   cases bs with
   | nil => rfl
   | cons b0 _ => obtain ⟨_, ⟨_, h, _⟩, _⟩ := hbs b0 (by simp); cases h
  refine ⟨by rw [hds, hrr, hbn]; rfl, hfn, g2, _, .panic v, hE.trans2 hExt, hSI, ⟨uu, rfl, huu⟩, h4⟩

section
variable {P : Program} {cx : Cx} {Q : VE → St → Prop} {tm : List (Nat × V)} {st : List E} {nb : Nat}
theorem Dg.newNil {g : G} {a : Act} {w : World} (h : Dg cx g a w ⟨tm, st, nb⟩) (e : TypeId) (sz : Nat) :
  ∃ g', BZ cx.B g w g' w ∧ Dg cx g' a w ⟨tm, .r true true nb 0 e sz [] :: st, nb + 1⟩ ∧ vrep cx.B g' w (.row nb 0) (.slice none 0 0) := by
 have hup := h.inv.up (Nat.le_succ nb)
 obtain ⟨m1, m2, m3, m4⟩ := Ea (u := .slice none 0 0) (e := e) (sz := sz) (l := []) (xs := []) hup h.inv.free (Nat.lt_succ_self _) (Below.refl _ w) (by simp only [drepss]) ⟨by simp, by simp⟩ ⟨by simp, .inl ⟨rfl, rfl⟩⟩
 exact ⟨_, m1.evo, ⟨h.size, fun hx => m1.evo.vrep (h.tm hx), m2.cons (h.st.new m1 hup h.inv.free), m3, h.defers.evo m1.evo⟩, m4⟩
theorem Dg.nilT {g : G} {a : Act} {w : World} (h : Dg cx g a w ⟨tm, st, nb⟩) {t : Tmp} (e : TypeId) (sz : Nat) (ht : AA t tm = some (.d (.lit (.slice none 0 0)))) :
  ∃ g', BZ cx.B g w g' w ∧ Dg cx g' a w ⟨(t, .row nb 0) :: tm, .r true true nb 0 e sz [] :: st, nb + 1⟩ := by
 obtain ⟨g', h1, h2, h3⟩ := h.newNil e sz
 refine ⟨g', h1, h2.size, fun {t' v} hx => ?_, h2.st, h2.inv, h2.defers⟩
 simp only [AA] at hx
 split at hx
 ·rename_i hb
  have := Nat.eq_of_beq_eq_true hb
  subst this
  cases hx
  have hv := h.tm ht
  simp only [vrep, drep] at hv
  rw [hv]; exact h3
 ·exact h2.tm hx
theorem HI {c : Code} (t : Tmp) (e : TypeId) (sz : Nat) (ht : AA t tm = some (.d (.lit (.slice none 0 0)))) (k : VW P cx c ⟨(t, .row nb 0) :: tm, .r true true nb 0 e sz [] :: st, nb + 1⟩ Q) : VW P cx c ⟨tm, st, nb⟩ Q := fun n g0 w0 g a w hE hS => by
 obtain ⟨g', h1, h2⟩ := hS.nilT e sz ht
 exact k n g0 w0 g' a w (hE.trans h1) h2
theorem AC.nilC {B : Nat} {g : G} {w : World} (hs : AC B g w st) (hi : CG B nb g w) {k off : Nat} (e : TypeId) (sz : Nat) (ht : Aq k off st = some (.d (.lit (.slice none 0 0)))) :
  ∃ g', BZ B g w g' w ∧ vrep B g' w (.row nb 0) (.slice none 0 0) ∧ AC B g' w (.c k off [.row nb 0] :: .r true true nb 0 e sz [] :: st) ∧ CG B (nb + 1) g' w := by
 have hup := hi.up (Nat.le_succ nb)
 obtain ⟨n1, n2, n3, n4⟩ := Ea (u := .slice none 0 0) (e := e) (sz := sz) (l := []) (xs := []) hup hi.free (Nat.lt_succ_self _) (Below.refl _ w) (by simp only [drepss]) ⟨by simp, by simp⟩ ⟨by simp, .inl ⟨rfl, rfl⟩⟩
 obtain ⟨b, rcs, ty, u, m1, m2, m3, m4⟩ := hs.cell ht
 simp only [vrep, drep] at m4
 subst m4
 refine ⟨_, n1.evo, n4, AC.cons ⟨fun {k' o' v} hc => ?_, fun hr => by simp [Az] at hr, fun hl => by simp [Au] at hl⟩ (n2.cons (hs.new n1 hup hi.free)), n3⟩
 simp only [Aq] at hc
 split at hc
 ·rename_i hk
  have := Nat.eq_of_beq_eq_true hk
  subst this
  split at hc
  ·rename_i ho
   have ho := Nat.le_of_ble_eq_true ho
   split at hc
   ·rename_i v' hv
    cases hc
    rw [List.getElem?_singleton] at hv
    split at hv
    ·rename_i h0
     cases hv
     have : o' = off := by omega
     subst this
     exact ⟨b, rcs, ty, _, n1.evo.bx m1, m2, m3, n4⟩
    ·cases hv
   ·cases hc
  ·cases hc
 ·cases hc
theorem Dg.nilC {g : G} {a : Act} {w : World} (h : Dg cx g a w ⟨tm, st, nb⟩) {k off : Nat} (e : TypeId) (sz : Nat) (ht : Aq k off st = some (.d (.lit (.slice none 0 0)))) :
  ∃ g', BZ cx.B g w g' w ∧ Dg cx g' a w ⟨tm, .c k off [.row nb 0] :: .r true true nb 0 e sz [] :: st, nb + 1⟩ := by
 obtain ⟨g', h1, _, h3, h4⟩ := h.st.nilC h.inv e sz ht
 exact ⟨g', h1, h.size, fun hx => h1.vrep (h.tm hx), h3, h4, h.defers.evo h1⟩
theorem Wq {c : Code} (k off : Nat) (e : TypeId) (sz : Nat) (ht : Aq k off st = some (.d (.lit (.slice none 0 0)))) (h : VW P cx c ⟨tm, .c k off [.row nb 0] :: .r true true nb 0 e sz [] :: st, nb + 1⟩ Q) : VW P cx c ⟨tm, st, nb⟩ Q := fun n g0 w0 g a w hE hS => by
 obtain ⟨g', h1, h2⟩ := hS.nilC e sz ht
 exact h n g0 w0 g' a w (hE.trans h1) h2
end

end Go.Proofs.YtbgcjnfhadhjeaaGreat