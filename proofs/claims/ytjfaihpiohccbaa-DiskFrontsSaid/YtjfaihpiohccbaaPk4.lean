/- Walks by data and names, part 4: Ranges over functions, 2: the statement, and what the function calls. A nil slice is a row of one's own; rows may be named anew. Walks in short, 2: contracts by name, ranges over functions. -/
import Derived.RangeFuncNested
import Derived.Test.YtjfaihpiohccbaaPk3
namespace Go.Proofs.Ytjfaihpiohccbaa
open Go.RowKit

/-- what is left of the jump -/
def pendK (P : Program) (cx : Cx) (Q : VE → St → Prop) (s : St) : Option Code → Prop
  | none => Q .normal s
  | some c => VW P cx c s Q
/-- the function has come back -/
def rangeK (P : Program) (cx : Cx) (k : Nat) (T : Array Value) (Q : VE → St → Prop) : RC → List E → Nat → Prop
  | .ret _, st', nb' => ∃ R' tm' tm2 st2, loopAt k st' = some (some R', T, tm') ∧ (R'.state ≠ .busy) ∧ lookT cx.N tm' = some (.yl k) ∧ lowT cx.N tm' = some tm2 ∧ dropY k st' = some st2 ∧ pendK P cx Q ⟨tm2, st2, nb'⟩ R'.pending
  | .panic v, st', nb' => ∃ R' tm' tm2 st2, loopAt k st' = some (some R', T, tm') ∧ lookT cx.N tm' = some (.yl k) ∧ lowT cx.N tm' = some tm2 ∧ dropY k st' = some st2 ∧ Q (.panic v) ⟨tm2, st2, nb'⟩

theorem SimS.dropped {B : Nat} {g : G} {w : World} {st q : List E} {k : Nat} (h : SimS B g w st) (hq : dropY k st = some q) : SimS B g w q := by
  obtain ⟨d1, d2, d3⟩ := dropY_spec hq
  refine ⟨fun {i o v} hc => h.cell (by rw [← d1]; exact hc), fun {i o nw ver e sz l2} hr => h.row (by rw [← d2]; exact hr), fun {i r T' tm'} hl => ?_⟩
  by_cases e : i = k
  · subst e; rw [dropY_none hq] at hl; cases hl
  · exact h.loop (by rw [← d3 i e]; exact hl)

theorem vw_range {P : Program} {cx : Cx} {tm : List (Nat × V)} {st : List E} {nb : Nat} {Q : VE → St → Prop} {gop : Operand} {ps : Array Tmp} {assign body : Code} {v : V} {f : FuncId} {az : List V}
    (hrd : cx.rd = none) (hM : cx.M.isSome = true) (hdf : cx.df = []) (hx : evalV ⟨tm, st, nb⟩ gop = some v) (hf : fnV v [.yl nb] = some (f, az)) {tm0 : List (Nat × V)} (htm0 : lowT cx.N tm = some tm0) (hmn : Nat.ble cx.m nb = true)
    (hc : ∀ (R : Loop) (T : Array Value), LoopOk cx.N ps assign body R T → VMB P f cx.B cx.m az (.y nb (some R) T ((cx.N, .yl nb) :: tm0) :: st) (nb + 1) (rangeK P cx nb T Q)) :
    VW P cx (.rangeFunc gop ps assign body) ⟨tm, st, nb⟩ Q := fun n g0 w0 g a w hE hS => by
  have hmn := Nat.le_of_ble_eq_true hmn
  refine wpIn_rangeFunc fun fn _ => ?_
  rw [show (FW cx.rd).round = none from hrd]
  obtain ⟨R, hR⟩ : ∃ R : Loop, R = { state := .ready, pending := none, fn, tmps := a.tmps, params := ps, assign, body, defers := w.heap.size } := ⟨_, rfl⟩
  let wD := w.alloc (.deferred (some []))
  let T := a.tmps.push (.func (.yield (w.heap.size + 1)) #[] #[])
  have hOk : LoopOk cx.N ps assign body R T := by
    subst hR
    refine ⟨rfl, rfl, rfl, rfl, rfl, hS.size, fun t ht => ?_⟩
    simp only [T, Array.getD_eq_getD_getElem?]
    rw [Array.getElem?_push, if_neg (by rw [hS.size]; omega)]
  -- the world with the loop's two blocks
  have hbD : Below w.heap.size w wD := (Below.refl _ w).alloc (Nat.le_refl _) _
  have hN : NewO cx.B g w g wD none := ⟨Evo.of_below hS.inv hbD, fun b hb => hbD.block b hb, fun _ _ => ⟨rfl, rfl, rfl⟩⟩
  have hsD : SimS cx.B g wD st := hS.st.newO hN hS.inv (fun _ h => by cases h)
  have hiD : Inv cx.B nb g wD := hS.inv.evo hbD.size
  have hup := hiD.up (Nat.le_succ nb)
  obtain ⟨hNew, hi1⟩ := new_bo hup hiD.free (Nat.lt_succ_self _) (.loop R)
  have hszD : wD.heap.size = w.heap.size + 1 := by simp [wD]
  generalize hw1 : wD.alloc (.loop R) = w1 at hNew hi1
  generalize hg1 : g.addBx nb wD.heap.size = g1 at hNew hi1
  have hE1 : Evo cx.B g w g1 w1 := hN.evo.trans hNew.evo
  have hb1 : g1.bx nb = some (w.heap.size + 1) := by subst hg1; simp [G.addBx, hszD]
  have hl1 : w1.heap[w.heap.size + 1]? = some (.loop R) := by
    subst hw1; have := World.alloc_heap_new wD (.loop R); rwa [hszD] at this
  have hTN : T.getD cx.N undef = .func (.yield (w.heap.size + 1)) #[] #[] := by
    simp only [T, Array.getD_eq_getD_getElem?]
    rw [Array.getElem?_push, if_pos (by rw [hS.size])]; rfl
  have hs1 : SimS cx.B g1 w1 (.y nb (some R) T ((cx.N, .yl nb) :: tm0) :: st) := by
    refine SimS.cons ⟨fun h => by simp [cellAt] at h, fun h => by simp [rowAt] at h, fun {i r T' tm'} hl => ?_⟩ (hsD.new hNew hup hiD.free)
    simp only [loopAt] at hl
    split at hl
    · rename_i hb
      have := Nat.eq_of_beq_eq_true hb
      subst this
      cases hl
      refine ⟨fun lp e => by cases e; exact ⟨_, hb1, hl1⟩, fun {t v} ht => ?_⟩
      simp only [lookT] at ht
      split at ht
      · rename_i hb2
        have := Nat.eq_of_beq_eq_true hb2
        subst this
        cases ht
        rw [hTN]; simp only [vrep]; exact ⟨_, hb1, rfl⟩
      · obtain ⟨h1, h2⟩ := lowT_spec htm0 ht
        rw [hOk.low t h1, hR]
        exact hE1.vrep (hS.tm h2)
    · cases hl
  have hyl : vreps cx.B g1 w1 [.yl nb] [.func (.yield (w.heap.size + 1)) #[] #[]] := by
    simp only [vreps]; exact ⟨_, [], rfl, by simp only [vrep]; exact ⟨_, hb1, rfl⟩, rfl⟩
  obtain ⟨first, cap, hu, zs, hz, hzs⟩ := fnV_spec hf (hE1.vrep (hS.eval hx)) hyl
  have hcb := hc R T hOk
  have hcall := hcb.2 g1 w1 zs hs1 hi1 hzs
  have hmem : ∀ (r : Ending → World → Prop), Calls P f zs.toArray w1 r → CallsIn (FW cx.rd) (n - 1) P f zs.toArray w1 r := fun r h =>
    ⟨trivial, fun cs _ => by
      obtain ⟨e, w', fr, hr, hcm, hx⟩ := h cs
      refine ⟨e, w', fr, hr, ?_, hx⟩
      have := comesIn_wide.2 hcm
      cases e with
      | returned v => exact StepsIn.mono (fun m _ => fenced_FW P cx.rd m) this
      | panicked ch => exact StepsIn.mono (fun m _ => fenced_FW P cx.rd m) this
      | outgrown => exact this⟩
  have hw1' : w1 = (w.alloc (.deferred (some []))).alloc (.loop { state := .ready, pending := none, fn, tmps := a.tmps, params := ps, assign, body, defers := w.heap.size }) := by rw [← hw1, hR]
  refine ⟨w.heap.size + 1, [{ target := .collected w.heap.size, args := #[] }], w1, { target := .fn (.func f) cap, args := first ++ #[.func (.yield (w.heap.size + 1)) #[] #[]] }, w1, f, zs.toArray, w1, ?_, ?_, fun _ _ => trivial, ?_, (fun h => by cases h), ?_⟩
  · rw [hw1']; exact run_enterLoop_outer _ _ _ _ _
  · simp only [resolve, hu]; simp [Act.eval, Deferred.ofValue]
  · rw [← hz]
    simp [invoke, hcb.1]
  refine (hmem _ hcall).mono ?_
  -- behind the function
  have hpD : g1.prot w.heap.size := by
    rintro (h | ⟨k, h⟩ | ⟨k, h⟩)
    · rw [hE1.ex] at h; exact Nat.lt_irrefl _ (hS.inv.exlt h)
    · subst hg1; simp only [G.addBx] at h
      split at h
      · rw [hszD] at h; simp only [Option.some.injEq] at h; omega
      · exact Nat.lt_irrefl _ (hS.inv.bxlt h).1
    · subst hg1; exact Nat.lt_irrefl _ (hS.inv.rblt h).1
  have hDl : w1.heap[w.heap.size]? = some (.deferred (some [])) := by
    rw [← hw1]; exact (Below.heap_alloc _ _ _ (by simp [hszD])).trans (World.alloc_heap_new w _)
  rintro e w3 ⟨g3, st3, nb3, r, x1, x2, x3, x4, x5, x6⟩
  have hE3 : Ext cx.m g w g3 w3 := (hE1.ext cx.m).trans2 x1
  have hkey : ∀ {R' : Loop} {tm' : List (Nat × V)}, loopAt nb st3 = some (some R', T, tm') → lookT cx.N tm' = some (.yl nb) → ∃ l, l = w.heap.size + 1 ∧ g3.bx nb = some l ∧ w3.heap[l]? = some (.loop R') := fun {R' tm'} h1 h2 => by
    obtain ⟨l, a1, a2, _⟩ := putLoop x3 x2 h1
    have := (x2.loop h1).2 h2
    rw [hTN] at this
    simp only [vrep] at this
    obtain ⟨l', b1, b2⟩ := this
    rw [a1] at b1; cases b1
    simp only [Value.func.injEq, Fn.yield.injEq, and_true] at b2
    exact ⟨l, b2.symm, a1, a2⟩
  have hSim : ∀ {w4 : World} {R' : Option Loop} {tm' tm2 : List (Nat × V)} {st2 : List E} {nb4 : Nat}, Evo cx.B g3 w3 g3 w4 → loopAt nb st3 = some (R', T, tm') → lowT cx.N tm' = some tm2 → SimS cx.B g3 w4 st2 → Inv cx.B nb4 g3 w4 →
      Sim cx g3 { a with defers := [{ target := .collected w.heap.size, args := #[] }] ++ a.defers } w4 ⟨tm2, st2, nb4⟩ := fun {w4 R' tm' tm2 st2 nb4} hE4 h1 h2 h3 h4 => by
    refine ⟨hS.size, fun {t v} ht => ?_, h3, h4, ?_⟩
    · obtain ⟨k1, k2⟩ := lowT_spec h2 ht
      have := (x2.loop h1).2 k2
      rw [hOk.low t k1, hR] at this
      exact hE4.vrep this
    · obtain ⟨hm0, bs, rr, hds, hnd, hbs, hrr⟩ := hS.defers
      rw [hdf] at hrr
      simp only [DfL] at hrr
      subst hrr
      have hlt : ∀ b ∈ bs, b < w.heap.size := fun b hb => (Array.getElem?_eq_some_iff.1 (hbs b hb).2.2).1
      refine ⟨fun m h => Nat.le_trans (hm0 m h) (Nat.le_trans hE3.size hE4.size), w.heap.size :: bs, [], by simp [hds], ?_, fun b hb => ?_, by rw [hdf]; simp only [DfL]⟩
      · simp only [List.nodup_cons]
        exact ⟨fun h => Nat.lt_irrefl _ (hlt _ h), hnd⟩
      · rcases List.mem_cons.1 hb with rfl | hb
        · have q1 := x1.blk _ (Array.getElem?_eq_some_iff.1 hDl).1 hpD
          have q2 := hE4.blk w.heap.size (Array.getElem?_eq_some_iff.1 (q1.2.trans hDl)).1 q1.1
          obtain ⟨M, hM⟩ := Option.isSome_iff_exists.1 hM
          exact ⟨q2.1, ⟨M, hM, hm0 M hM⟩, q2.2.trans (q1.2.trans hDl)⟩
        · obtain ⟨y1, y2, y3⟩ := hbs b hb
          have q1 := hE3.blk _ (hlt b hb) y1
          have q2 := hE4.blk b (Array.getElem?_eq_some_iff.1 (q1.2.trans y3)).1 q1.1
          exact ⟨q2.1, y2, q2.2.trans (q1.2.trans y3)⟩
  cases r with
  | ret v =>
    obtain ⟨u, rfl, _⟩ := x4
    obtain ⟨R', tm', tm2, st2, h1, h2, h3, h4, h5, h6⟩ := x5
    obtain ⟨l, rfl, b1, b2⟩ := hkey h1 h3
    obtain ⟨l', c1, c2, c3⟩ := putLoop x3 x2 h1
    rw [b1] at c1; cases c1
    obtain ⟨d1, d2, d3, _⟩ := c3 { R' with state := .exhausted }
    refine ⟨R'.pending, _, run_endLoop b2 h2, ?_⟩
    have hsim := hSim d1 h1 h4 (d3 _ h5) d2
    have hext := (hE.trans2 hE3).trans d1
    clear d1 d2 d3 c3
    generalize w3.putObj (w.heap.size + 1) (.loop { R' with state := .exhausted }) = w4 at hext hsim ⊢
    cases hp : R'.pending with
    | none =>
      rw [hp] at h6
      exact ⟨g3, _, .normal, hext, hsim, rfl, h6⟩
    | some c =>
      rw [hp] at h6
      exact h6 n g0 w0 g3 _ _ hext hsim
  | panic v =>
    obtain ⟨u, rfl, hu⟩ := x4
    obtain ⟨R', tm', tm2, st2, h1, h3, h4, h5, h6⟩ := x5
    exact ⟨g3, _, .panic v, hE.trans2 hE3, hSim (Evo.refl _ _ _) h1 h4 (x2.dropped h5) x3, ⟨u, rfl, hu⟩, h6⟩

/-! ### what the function calls -/
/-- the slots with what is handed over -/
def pT : List Tmp → List V → List (Nat × V) → List (Nat × V)
  | p :: ps, v :: vs, tm => pT ps vs ((p, v) :: tm)
  | _, _, tm => tm
theorem pT_spec {B N : Nat} {g : G} {w : World} : ∀ {ps : List Tmp} {vs : List V} {us : List Value} {tm : List (Nat × V)} {A : Array Value}, ps.length = vs.length → vreps B g w vs us → ps.all (Nat.blt · N) = true → A.size = N →
    (∀ {t v}, lookT t tm = some v → vrep B g w v (A.getD t undef)) →
    ((ps.zip us).foldl (fun t (p, v) => t.setIfInBounds p v) A).size = N ∧ ∀ {t v}, lookT t (pT ps vs tm) = some v → vrep B g w v (((ps.zip us).foldl (fun t (p, v) => t.setIfInBounds p v) A).getD t undef)
  | [], [], us, tm, A, _, hu, _, hA, h => by simp only [vreps] at hu; subst hu; exact ⟨hA, fun ht => h ht⟩
  | p :: ps, v :: vs, us, tm, A, hl, hu, hp, hA, h => by
    simp only [vreps] at hu
    obtain ⟨y, ys, rfl, k1, k2⟩ := hu
    simp only [List.all_cons, Bool.and_eq_true] at hp
    simp only [List.zip_cons_cons, List.foldl_cons, pT]
    refine pT_spec (by simpa using hl) k2 hp.2 (by simpa using hA) fun {t x} ht => ?_
    simp only [lookT] at ht
    simp only [Array.getD_eq_getD_getElem?]
    split at ht
    · rename_i hb
      have := Nat.eq_of_beq_eq_true hb
      subst this
      cases ht
      rw [Array.getElem?_setIfInBounds_self_of_lt (by rw [hA]; exact blt_lt hp.1)]
      exact k1
    · rename_i hb
      rw [Array.getElem?_setIfInBounds_ne (fun e => by subst e; rw [Nat.beq_refl] at hb; cases hb), ← Array.getD_eq_getD_getElem?]
      exact h ht
  | [], _ :: _, _, _, _, hl, _, _, _, _ => by simp at hl
  | _ :: _, [], _, _, _, hl, _, _, _, _ => by simp at hl
/-- what is assigned first -/
def asgK (P : Program) (cxb : Cx) (body : Code) (k : Nat) (R : Loop) (T : Array Value) (K : VE → St → Prop) : VE → St → Prop
  | .normal, s1 => ∃ tm1, loopAt k s1.st = some (some R, T, tm1) ∧ lookT cxb.N tm1 = some (.yl k) ∧ VW P cxb body ⟨s1.tm, .y k (some { R with state := .busy }) T tm1 :: s1.st, s1.nb⟩ K
  | _, _ => False
/-- at a round's end -/
def endK (P : Program) (cx : Cx) (ops rest : List Oper) (t : Tmp) (N k nbI : Nat) (R : Loop) (T TI : Array Value) (Q : VE → St → Prop) (c : Option Code) (b : Bool) (s2 : St) : Prop :=
  ∃ tm1 tm2, loopAt k s2.st = some (some { R with state := .busy }, T, tm1) ∧ lookT N tm1 = some (.yl k) ∧ loopAt nbI s2.st = some (none, TI, tm2) ∧
    VL P cx ops rest ⟨(t, .d (.lit (.bool b))) :: tm2, .y k (some { R with state := if b then .ready else .done, pending := c }) T tm1 :: s2.st, s2.nb⟩ Q
def rndK (P : Program) (cx : Cx) (ops rest : List Oper) (t : Tmp) (N k nbI : Nat) (R : Loop) (T TI : Array Value) (Q : VE → St → Prop) : VE → St → Prop
  | .normal, s2 => endK P cx ops rest t N k nbI R T TI Q none true s2
  | .ret, s2 => endK P cx ops rest t N k nbI R T TI Q (some .ret) false s2
  | .exit id, s2 => endK P cx ops rest t N k nbI R T TI Q (some (.exit id)) false s2
  | .goto id, s2 => endK P cx ops rest t N k nbI R T TI Q (some (.goto id)) false s2
  | .panic _, _ => False

theorem vl_yield {P : Program} {cx : Cx} {s : St} {Q : VE → St → Prop} {ops rest : List Oper} {t : Tmp} {x : Operand} {xs : Array Operand} {tys : Array TypeId} {ty : TypeId} {pos : String} {af : Array Edge} {gd : Option (Nat × Bool)} {k N : Nat} {vs : List V}
    {ps : Array Tmp} {assign body : Code} {R : Loop} {T : Array Value} {tmO tm0 : List (Nat × V)}
    (hrd : cx.rd = none) (hdf : cx.df = []) (hx : evalV s x = some (.yl k)) (hv : evalVs s xs.toList = some vs) (hl : loopAt k s.st = some (some R, T, tmO)) (hOk : LoopOk N ps assign body R T) (hlk : lookT N tmO = some (.yl k)) (hlo : lowT N tmO = some tm0)
    (hps : ps.toList.length = vs.length) (hpb : ps.toList.all (Nat.blt · N) = true) (hw : Wd ops s.tm gd) (ht : Nat.blt t cx.N = true)
    (h : ∀ l TI, VW P ⟨N, some l, cx.B, cx.m, none, []⟩ assign ⟨pT ps.toList vs tm0, .y s.nb none TI s.tm :: s.st, s.nb + 1⟩ (asgK P ⟨N, some l, cx.B, cx.m, none, []⟩ body k R T (rndK P cx ops rest t N k s.nb R T TI Q))) :
    VL P cx ops (⟨some t, .call { callee := .value x, args := xs, argTypes := tys }, ty, pos, af, gd⟩ :: rest) s Q := fun n g0 w0 g a w hE hS => by
  simp only [wplIn]
  rw [if_pos (Wd.wanted (o := ⟨some t, _, ty, pos, af, gd⟩) hS hw)]
  refine ⟨fun _ _ => trivial, ?_⟩
  rw [Oper.semAt_plain (FW cx.rd) _ _ (by intro c e; cases e)]
  have hxe := hS.eval hx
  have hve := hS.evals hv
  simp only [vrep] at hxe
  obtain ⟨b, hb, hxe⟩ := hxe
  obtain ⟨b', hb', hlb, _⟩ := putLoop hS.inv hS.st hl
  rw [hb] at hb'; cases hb'
  have hTN : T.getD N undef = .func (.yield b) #[] #[] := by
    have := (hS.st.loop hl).2 hlk
    simp only [vrep] at this
    obtain ⟨b2, e1, e2⟩ := this
    rw [hb] at e1; cases e1; exact e2
  have hus : (xs.toList.map a.eval).length = vs.length := vreps_len hve
  have hrun : (execOp a.eval ⟨some t, .call { callee := .value x, args := xs, argTypes := tys }, ty, pos, af, gd⟩).run P w = .ok (.round b R.fn ((R.params.zip (xs.map a.eval)).foldl (fun t (p, v) => t.setIfInBounds p v) R.tmps) R.assign R.body) w := by
    have := run_yield (P := P) (args := xs.map a.eval) hlb (by have h1 := hps; have h2 := hus; simp only [Array.length_toList, List.length_map] at h1 h2; rw [hOk.params, Array.size_map]; omega)
    simp only [execOp, resolve, hxe, Deferred.ofValue]
    simpa [invoke] using this
  rw [hrun, Oper.uponIn_round]
  refine ⟨(fun h => by cases h), ?_⟩
  have hin : ∀ l, (FW cx.rd).inRound l = FW (some l) := fun l => by simp [FW, Fence.inRound]
  have hS1 : Sim ⟨N, some b, cx.B, cx.m, none, []⟩ g { tmps := (R.params.zip (xs.map a.eval)).foldl (fun t (p, v) => t.setIfInBounds p v) R.tmps, defers := [] } w ⟨pT ps.toList vs tm0, .y s.nb none a.tmps s.tm :: s.st, s.nb + 1⟩ := by
    have hz : (R.params.zip (xs.map a.eval)).foldl (fun t (p, v) => t.setIfInBounds p v) R.tmps = (ps.toList.zip (xs.toList.map a.eval)).foldl (fun t (p, v) => t.setIfInBounds p v) R.tmps := by
      rw [hOk.params, ← Array.foldl_toList]; simp
    obtain ⟨z1, z2⟩ := pT_spec (tm := tm0) hps hve hpb hOk.size fun {t v} ht => by
      obtain ⟨q1, q2⟩ := lowT_spec hlo ht
      rw [← hOk.low t q1]; exact (hS.st.loop hl).2 q2
    rw [hz]
    refine ⟨z1, fun ht => z2 ht, SimS.cons ⟨fun h => by simp [cellAt] at h, fun h => by simp [rowAt] at h, fun {i r T' tm'} hl' => ?_⟩ hS.st, hS.inv.up (Nat.le_succ _), ⟨fun _ h => by (cases h), [], [], rfl, by simp, by simp, rfl⟩⟩
    simp only [loopAt] at hl'
    split at hl'
    · cases hl'; exact ⟨fun _ e => (by cases e), fun ht => hS.tm ht⟩
    · cases hl'
  have hprot : ∀ {g2 : G} {w2 : World}, Ext cx.m g w g2 w2 → Marks cx g2 w2 a.defers := fun {g2 w2} hx2 => by
    obtain ⟨hm0, bs, rr, hds, hnd, hbs, hrr⟩ := hS.defers
    rw [hdf] at hrr
    simp only [DfL] at hrr
    refine ⟨fun m h => Nat.le_trans (hm0 m h) hx2.size, bs, rr, hds, hnd, fun b hb => ?_, by rw [hdf]; simp only [DfL]; exact hrr⟩
    obtain ⟨y1, y2, y3⟩ := hbs b hb
    have q1 := hx2.blk _ (Array.getElem?_eq_some_iff.1 y3).1 y1
    exact ⟨q1.1, y2, q1.2.trans y3⟩
  refine roundIn_of_wpIn trivial ?_
  rw [hin, hOk.assign, hOk.body]
  refine wpIn_mono (h b a.tmps (n - 1) g w g _ w (Ext.refl _ _ _) hS1) ?_
  rintro e a1 w1 ⟨g1, s1, e1, hE1, hS1', he1, hq1⟩
  cases e1 with
  | exit id => exact hq1.elim
  | goto l => exact hq1.elim
  | ret => exact hq1.elim
  | panic v => exact hq1.elim
  | normal =>
  simp only [erel] at he1; subst he1
  obtain ⟨tm1, f1, f2, f3⟩ := hq1
  have tie : ∀ {g2 : G} {w2 : World} {st2 : List E} {nb2 : Nat} {R2 : Loop} {tm2 : List (Nat × V)}, Inv cx.B nb2 g2 w2 → SimS cx.B g2 w2 st2 → loopAt k st2 = some (some R2, T, tm2) → lookT N tm2 = some (.yl k) →
      w2.heap[b]? = some (.loop R2) ∧ ∀ lp', Evo cx.B g2 w2 g2 (w2.putObj b (.loop lp')) ∧ Inv cx.B nb2 g2 (w2.putObj b (.loop lp')) ∧ SimS cx.B g2 (w2.putObj b (.loop lp')) (.y k (some lp') T tm2 :: st2) := fun {g2 w2 st2 nb2 R2 tm2} hi2 hs2 hl2 hy2 => by
    obtain ⟨l, a1, a2, a3⟩ := putLoop hi2 hs2 hl2
    have := (hs2.loop hl2).2 hy2
    rw [hTN] at this
    simp only [vrep] at this
    obtain ⟨l', b1, b2⟩ := this
    rw [a1] at b1; cases b1
    simp only [Value.func.injEq, Fn.yield.injEq, and_true] at b2
    subst b2
    exact ⟨a2, fun lp' => ⟨(a3 lp').1, (a3 lp').2.1, (a3 lp').2.2.2⟩⟩
  obtain ⟨t1, t2⟩ := tie hS1'.inv hS1'.st f1 f2
  obtain ⟨u1, u2, u3⟩ := t2 { R with state := .busy }
  refine ⟨_, run_beginRound t1 hOk.state, ?_⟩
  refine wpIn_mono (f3 (n - 1) g w g1 a1 _ (hE1.trans u1) (hS1'.same u1 u3 u2)) ?_
  rintro e a2 w2 ⟨g2, s2, e2, hE2, hS2, he2, hq2⟩
  have fin : ∀ (c : Option Code) (bb : Bool), c.isNone = bb → endK P cx ops rest t N k s.nb R T a.tmps Q c bb s2 → ∃ v w', (Instr.endRound b c).run P w2 = .ok v w' ∧ wplIn (FW cx.rd) n P ops.toArray (vpost cx g0 w0 Q) rest (a.put (some t) v) w' := fun c bb hcb hk => by
    obtain ⟨tm1', tm2', h1, h2, h3, h4⟩ := hk
    obtain ⟨v1, v2⟩ := tie hS2.inv hS2.st h1 h2
    obtain ⟨x1, x2, x3⟩ := v2 { R with state := if bb then .ready else .done, pending := c }
    have hend := run_endRound (P := P) c v1
    rw [hcb] at hend
    refine ⟨_, _, hend, ?_⟩
    have hExt := hE2.trans x1
    have hSI : Sim cx g2 a (w2.putObj b (.loop { R with state := if bb then .ready else .done, pending := c })) ⟨tm2', .y k (some { R with state := if bb then .ready else .done, pending := c }) T tm1' :: s2.st, s2.nb⟩ :=
      ⟨hS.size, fun ht => x1.vrep ((hS2.st.loop h3).2 ht), x3, x2, hprot hExt⟩
    exact h4 n g0 w0 g2 _ _ (hE.trans2 hExt) (hSI.put (Evo.refl _ _ _) (Nat.le_of_ble_eq_true ht) x3 x2 (by simp only [vrep, drep]))
  cases e2 with
  | normal => simp only [erel] at he2; subst he2; exact fin none true rfl hq2
  | ret => simp only [erel] at he2; subst he2; exact fin _ false rfl hq2
  | exit id => simp only [erel] at he2; subst he2; exact fin _ false rfl hq2
  | goto l => simp only [erel] at he2; subst he2; exact fin _ false rfl hq2
  | panic v => exact hq2.elim

end Go.Proofs.Ytjfaihpiohccbaa

namespace Go.Proofs.Ytjfaihpiohccbaa
open Go.RowKit

section
variable {P : Program} {cx : Cx} {Q : VE → St → Prop} {tm : List (Nat × V)} {st : List E} {nb : Nat}
theorem Sim.newNil {g : G} {a : Act} {w : World} (h : Sim cx g a w ⟨tm, st, nb⟩) (e : TypeId) (sz : Nat) :
    ∃ g', Evo cx.B g w g' w ∧ Sim cx g' a w ⟨tm, .r true true nb 0 e sz [] :: st, nb + 1⟩ ∧ vrep cx.B g' w (.row nb 0) (.slice none 0 0) := by
  have hup := h.inv.up (Nat.le_succ nb)
  obtain ⟨m1, m2, m3, m4⟩ := new_row (u := .slice none 0 0) (e := e) (sz := sz) (l := []) (xs := []) hup h.inv.free (Nat.lt_succ_self _) (Below.refl _ w) (by simp only [drepss]) ⟨by simp, by simp⟩ ⟨by simp, .inl ⟨rfl, rfl⟩⟩
  exact ⟨_, m1.evo, ⟨h.size, fun hx => m1.evo.vrep (h.tm hx), m2.cons (h.st.new m1 hup h.inv.free), m3, h.defers.evo m1.evo⟩, m4⟩
theorem Sim.nilT {g : G} {a : Act} {w : World} (h : Sim cx g a w ⟨tm, st, nb⟩) {t : Tmp} (e : TypeId) (sz : Nat) (ht : lookT t tm = some (.d (.lit (.slice none 0 0)))) :
    ∃ g', Evo cx.B g w g' w ∧ Sim cx g' a w ⟨(t, .row nb 0) :: tm, .r true true nb 0 e sz [] :: st, nb + 1⟩ := by
  obtain ⟨g', h1, h2, h3⟩ := h.newNil e sz
  refine ⟨g', h1, h2.size, fun {t' v} hx => ?_, h2.st, h2.inv, h2.defers⟩
  simp only [lookT] at hx
  split at hx
  · rename_i hb
    have := Nat.eq_of_beq_eq_true hb
    subst this
    cases hx
    have hv := h.tm ht
    simp only [vrep, drep] at hv
    rw [hv]; exact h3
  · exact h2.tm hx
theorem vw_nilT {c : Code} (t : Tmp) (e : TypeId) (sz : Nat) (ht : lookT t tm = some (.d (.lit (.slice none 0 0)))) (k : VW P cx c ⟨(t, .row nb 0) :: tm, .r true true nb 0 e sz [] :: st, nb + 1⟩ Q) : VW P cx c ⟨tm, st, nb⟩ Q := fun n g0 w0 g a w hE hS => by
  obtain ⟨g', h1, h2⟩ := hS.nilT e sz ht
  exact k n g0 w0 g' a w (hE.trans h1) h2
theorem vl_nilT {ops rest : List Oper} (t : Tmp) (e : TypeId) (sz : Nat) (ht : lookT t tm = some (.d (.lit (.slice none 0 0)))) (k : VL P cx ops rest ⟨(t, .row nb 0) :: tm, .r true true nb 0 e sz [] :: st, nb + 1⟩ Q) : VL P cx ops rest ⟨tm, st, nb⟩ Q := fun n g0 w0 g a w hE hS => by
  obtain ⟨g', h1, h2⟩ := hS.nilT e sz ht
  exact k n g0 w0 g' a w (hE.trans h1) h2
theorem SimS.nilC {B : Nat} {g : G} {w : World} (hs : SimS B g w st) (hi : Inv B nb g w) {k off : Nat} (e : TypeId) (sz : Nat) (ht : cellAt k off st = some (.d (.lit (.slice none 0 0)))) :
    ∃ g', Evo B g w g' w ∧ vrep B g' w (.row nb 0) (.slice none 0 0) ∧ SimS B g' w (.c k off [.row nb 0] :: .r true true nb 0 e sz [] :: st) ∧ Inv B (nb + 1) g' w := by
  have hup := hi.up (Nat.le_succ nb)
  obtain ⟨n1, n2, n3, n4⟩ := new_row (u := .slice none 0 0) (e := e) (sz := sz) (l := []) (xs := []) hup hi.free (Nat.lt_succ_self _) (Below.refl _ w) (by simp only [drepss]) ⟨by simp, by simp⟩ ⟨by simp, .inl ⟨rfl, rfl⟩⟩
  obtain ⟨b, rcs, ty, u, m1, m2, m3, m4⟩ := hs.cell ht
  simp only [vrep, drep] at m4
  subst m4
  refine ⟨_, n1.evo, n4, SimS.cons ⟨fun {k' o' v} hc => ?_, fun hr => by simp [rowAt] at hr, fun hl => by simp [loopAt] at hl⟩ (n2.cons (hs.new n1 hup hi.free)), n3⟩
  simp only [cellAt] at hc
  split at hc
  · rename_i hk
    have := Nat.eq_of_beq_eq_true hk
    subst this
    split at hc
    · rename_i ho
      have ho := Nat.le_of_ble_eq_true ho
      split at hc
      · rename_i v' hv
        cases hc
        rw [List.getElem?_singleton] at hv
        split at hv
        · rename_i h0
          cases hv
          have : o' = off := by omega
          subst this
          exact ⟨b, rcs, ty, _, n1.evo.bx m1, m2, m3, n4⟩
        · cases hv
      · cases hc
    · cases hc
  · cases hc
theorem Sim.nilC {g : G} {a : Act} {w : World} (h : Sim cx g a w ⟨tm, st, nb⟩) {k off : Nat} (e : TypeId) (sz : Nat) (ht : cellAt k off st = some (.d (.lit (.slice none 0 0)))) :
    ∃ g', Evo cx.B g w g' w ∧ Sim cx g' a w ⟨tm, .c k off [.row nb 0] :: .r true true nb 0 e sz [] :: st, nb + 1⟩ := by
  obtain ⟨g', h1, _, h3, h4⟩ := h.st.nilC h.inv e sz ht
  exact ⟨g', h1, h.size, fun hx => h1.vrep (h.tm hx), h3, h4, h.defers.evo h1⟩
theorem vw_nilC {c : Code} (k off : Nat) (e : TypeId) (sz : Nat) (ht : cellAt k off st = some (.d (.lit (.slice none 0 0)))) (h : VW P cx c ⟨tm, .c k off [.row nb 0] :: .r true true nb 0 e sz [] :: st, nb + 1⟩ Q) : VW P cx c ⟨tm, st, nb⟩ Q := fun n g0 w0 g a w hE hS => by
  obtain ⟨g', h1, h2⟩ := hS.nilC e sz ht
  exact h n g0 w0 g' a w (hE.trans h1) h2
theorem vl_nilC {ops rest : List Oper} (k off : Nat) (e : TypeId) (sz : Nat) (ht : cellAt k off st = some (.d (.lit (.slice none 0 0)))) (h : VL P cx ops rest ⟨tm, .c k off [.row nb 0] :: .r true true nb 0 e sz [] :: st, nb + 1⟩ Q) : VL P cx ops rest ⟨tm, st, nb⟩ Q := fun n g0 w0 g a w hE hS => by
  obtain ⟨g', h1, h2⟩ := hS.nilC e sz ht
  exact h n g0 w0 g' a w (hE.trans h1) h2
end

end Go.Proofs.Ytjfaihpiohccbaa

namespace Go.Proofs.Ytjfaihpiohccbaa
open Go.RowKit

/-! ### answers that say less -/
class DE (x y : D) : Prop where
  le : ∀ B U w u, drep B U w x u → drep B U w y u
class DEs (x y : List D) : Prop where
  le : ∀ B U w u, dreps B U w x u → dreps B U w y u
instance de_refl (x : D) : DE x x := ⟨fun _ _ _ _ h => h⟩
instance de_nil {c f : Bool} : DE (.lit (.slice none 0 0)) (.sl c f []) := ⟨fun B U w u h => dle_nil c f B U w u h⟩
instance de_sl {c f : Bool} {l : List (List D)} : DE (.sl c f l) (.sl false false l) := ⟨dle_sl c f l⟩
instance de_slf {c f : Bool} {l : List (List D)} : DE (.sl c f l) (.sl false f l) := ⟨dle_slf c f l⟩
instance de_any {x : D} : DE x .any := ⟨fun _ _ _ _ _ => by simp only [drep]⟩
instance des_nil : DEs [] [] := ⟨fun _ _ _ _ h => h⟩
instance des_cons {x y : D} {xs ys : List D} [h : DE x y] [hs : DEs xs ys] : DEs (x :: xs) (y :: ys) := ⟨fun B U w u k => by
  simp only [dreps] at k ⊢
  obtain ⟨z, zs, e, k1, k2⟩ := k
  exact ⟨z, zs, e, h.le _ _ _ _ k1, hs.le _ _ _ _ k2⟩⟩
instance de_agg {xs ys : List D} [hs : DEs xs ys] : DE (.agg xs) (.agg ys) := ⟨fun B U w u k => by
  simp only [drep] at k ⊢
  obtain ⟨cs, e, k⟩ := k
  exact ⟨cs, e, hs.le _ _ _ _ k⟩⟩
instance de_tup {xs ys : List D} [hs : DEs xs ys] : DE (.tup xs) (.tup ys) := ⟨fun B U w u k => by
  simp only [drep] at k ⊢
  obtain ⟨cs, e, k⟩ := k
  exact ⟨cs, e, hs.le _ _ _ _ k⟩⟩
def leR : R → R → Prop
  | .ret d, .ret d' => DE d d'
  | .own _ _ l, .ret d' => DE (.sl false true l) d'
  | .own e sz l, .own e' sz' l' => e = e' ∧ sz = sz' ∧ l = l'
  | .panic d, .panic d' => DE d d'
  | _, _ => False
theorem rrel_own {B : Nat} {U : Nat → Prop} {w : World} {en : Ending} {e : TypeId} {sz : Nat} {l : List (List D)} (h : rrel B U w (.own e sz l) en) (hU : ∀ b, B ≤ b → U b) : rrel B U w (.ret (.sl false true l)) en := by
  obtain ⟨u, xs, rfl, k1, k2, k3⟩ := h
  refine ⟨u, rfl, ?_⟩
  have k4 : ∀ b, u.ownBlock = some b → B ≤ b := fun b hb => (k3.lt b hb).1
  exact ownsRow_sl (drepss_mono (Nat.le_refl _) (fun b _ hb => ⟨hb.1, rfl⟩) k1) k2.1 k2.2 (ownsRow_base k3 (Nat.zero_le _)) (fun _ b hb => k4 b hb) fun b hb => hU b (k4 b hb)
theorem VP.le {P : Program} {f : FuncId} {ds : List D} {r' : R} (h : VP P f ds fun r => leR r r') : VP P f ds (· = r') :=
  ⟨h.1, fun U w us hu => (h.2 U w us hu).mono fun en w' ⟨h1, r, h2, h3⟩ => ⟨h1, r', rfl, by
    cases r with
    | ret d => cases r' with
      | ret d' => obtain ⟨u, rfl, k⟩ := h3; exact ⟨u, rfl, DE.le (self := h2) _ _ _ _ k⟩
      | own _ _ _ => exact h2.elim
      | panic _ => exact h2.elim
    | own e sz l => cases r' with
      | ret d' => obtain ⟨u, rfl, k⟩ := rrel_own h3 (fun b hb => .inr hb); exact ⟨u, rfl, DE.le (self := h2) _ _ _ _ k⟩
      | own _ _ _ => obtain ⟨rfl, rfl, rfl⟩ := h2; exact h3
      | panic _ => exact h2.elim
    | panic d => cases r' with
      | ret _ => exact h2.elim
      | own _ _ _ => exact h2.elim
      | panic d' => obtain ⟨u, rfl, k⟩ := h3; exact ⟨u, rfl, DE.le (self := h2) _ _ _ _ k⟩⟩⟩
/-- an answer of its own, as data -/
theorem VP.data {P : Program} {f : FuncId} {ds : List D} {e : TypeId} {sz : Nat} {l : List (List D)} (h : VP P f ds (· = .own e sz l)) : VP P f ds (· = .ret (.sl false true l)) := VP.le (h.mono fun r e => by subst e; exact de_refl _)

section
variable {P : Program} {cx : Cx} {ops rest : List Oper} {t k nbI N : Nat} {R : Loop} {T TI : Array Value} {Q : VE → St → Prop} {tm tm1 tm2 : List (Nat × V)} {st st2 : List E} {nb : Nat} {body : Code}
theorem nx_mkid {m : Nat} {K : RC → List E → Nat → Prop} {r : RC} (h : mK m K r st nb) : mK m K r st nb := h
theorem nx_asgid {K : VE → St → Prop} {e : VE} {s : St} (h : asgK P cx body k R T K e s) : asgK P cx body k R T K e s := h
theorem nx_rndid {e : VE} {s : St} (h : rndK P cx ops rest t N k nbI R T TI Q e s) : rndK P cx ops rest t N k nbI R T TI Q e s := h
theorem nx_rngid {r : RC} (h : rangeK P cx k T Q r st nb) : rangeK P cx k T Q r st nb := h
theorem nx_mk {m : Nat} {K : RC → List E → Nat → Prop} {r : RC} (h : K r st nb) (hm : Nat.ble m nb = true := by rfl) : mK m K r st nb := ⟨h, Nat.le_of_ble_eq_true hm⟩
theorem nx_asg {K : VE → St → Prop} (h : VW P cx body ⟨tm, .y k (some { R with state := .busy }) T tm1 :: st, nb⟩ K) (h1 : loopAt k st = some (some R, T, tm1) := by rfl) (h2 : lookT cx.N tm1 = some (.yl k) := by rfl) : asgK P cx body k R T K .normal ⟨tm, st, nb⟩ := ⟨tm1, h1, h2, h⟩
theorem nx_end {c : Option Code} {b : Bool} (h : VL P cx ops rest ⟨(t, .d (.lit (.bool b))) :: tm2, .y k (some { R with state := if b then .ready else .done, pending := c }) T tm1 :: st, nb⟩ Q)
    (h1 : loopAt k st = some (some { R with state := .busy }, T, tm1) := by rfl) (h2 : lookT N tm1 = some (.yl k) := by rfl) (h3 : loopAt nbI st = some (none, TI, tm2) := by rfl) : endK P cx ops rest t N k nbI R T TI Q c b ⟨tm, st, nb⟩ := ⟨tm1, tm2, h1, h2, h3, h⟩
theorem endN {ps : Array Tmp} {assign : Code} (hOk : LoopOk N ps assign body R T) : ({ R with state := if true then .ready else .done, pending := none } : Loop) = R := by
  have h1 := hOk.state
  have h2 := hOk.pending
  cases R; simp_all
theorem nx_rnd {ps : Array Tmp} {assign : Code} (hOk : LoopOk N ps assign body R T) (h : VL P cx ops rest ⟨(t, .d (.lit (.bool true))) :: tm2, .y k (some R) T tm1 :: st, nb⟩ Q)
    (h1 : loopAt k st = some (some { R with state := .busy }, T, tm1) := by rfl) (h2 : lookT N tm1 = some (.yl k) := by rfl) (h3 : loopAt nbI st = some (none, TI, tm2) := by rfl) : rndK P cx ops rest t N k nbI R T TI Q .normal ⟨tm, st, nb⟩ := ⟨tm1, tm2, h1, h2, h3, by rw [endN hOk]; exact h⟩
theorem nx_rnde {i : Nat} (h : VL P cx ops rest ⟨(t, .d (.lit (.bool false))) :: tm2, .y k (some { R with state := .done, pending := some (.exit i) }) T tm1 :: st, nb⟩ Q)
    (h1 : loopAt k st = some (some { R with state := .busy }, T, tm1) := by rfl) (h2 : lookT N tm1 = some (.yl k) := by rfl) (h3 : loopAt nbI st = some (none, TI, tm2) := by rfl) : rndK P cx ops rest t N k nbI R T TI Q (.exit i) ⟨tm, st, nb⟩ := ⟨tm1, tm2, h1, h2, h3, h⟩
theorem nx_rndr (h : VL P cx ops rest ⟨(t, .d (.lit (.bool false))) :: tm2, .y k (some { R with state := .done, pending := some .ret }) T tm1 :: st, nb⟩ Q)
    (h1 : loopAt k st = some (some { R with state := .busy }, T, tm1) := by rfl) (h2 : lookT N tm1 = some (.yl k) := by rfl) (h3 : loopAt nbI st = some (none, TI, tm2) := by rfl) : rndK P cx ops rest t N k nbI R T TI Q .ret ⟨tm, st, nb⟩ := ⟨tm1, tm2, h1, h2, h3, h⟩
theorem nx_rng {ps : Array Tmp} {assign : Code} {v : V} {N' : Nat} (hOk : LoopOk N' ps assign body R T) (h : Q .normal ⟨tm2, st2, nb⟩)
    (h1 : loopAt k st = some (some R, T, tm1) := by rfl) (h2 : lookT cx.N tm1 = some (.yl k) := by rfl) (h3 : lowT cx.N tm1 = some tm2 := by rfl) (h4 : dropY k st = some st2 := by rfl) : rangeK P cx k T Q (.ret v) st nb :=
  ⟨R, tm1, tm2, st2, h1, by rw [hOk.state]; simp, h2, h3, h4, by rw [hOk.pending]; exact h⟩
theorem nx_rngj {v : V} {c : Code} (h : VW P cx c ⟨tm2, st2, nb⟩ Q)
    (h1 : loopAt k st = some (some { R with state := .done, pending := some c }, T, tm1) := by rfl) (h2 : lookT cx.N tm1 = some (.yl k) := by rfl) (h3 : lowT cx.N tm1 = some tm2 := by rfl) (h4 : dropY k st = some st2 := by rfl) : rangeK P cx k T Q (.ret v) st nb :=
  ⟨_, tm1, tm2, st2, h1, by simp, h2, h3, h4, h⟩
theorem nx_rngp {v : V} {R' : Loop} (h : Q (.panic v) ⟨tm2, st2, nb⟩)
    (h1 : loopAt k st = some (some R', T, tm1) := by rfl) (h2 : lookT cx.N tm1 = some (.yl k) := by rfl) (h3 : lowT cx.N tm1 = some tm2 := by rfl) (h4 : dropY k st = some st2 := by rfl) : rangeK P cx k T Q (.panic v) st nb :=
  ⟨R', tm1, tm2, st2, h1, h2, h3, h4, h⟩
theorem vs_yield {x : Operand} {xs : Array Operand} {tys : Array TypeId} {ty : TypeId} {pos : String} {af : Array Edge} {gd : Option (Nat × Bool)} {vs : List V} {ps : Array Tmp} {assign : Code} {tmO tm0 : List (Nat × V)}
    (hOk : LoopOk N ps assign body R T)
    (h : ∀ l TI, VW P ⟨N, some l, cx.B, cx.m, none, []⟩ assign ⟨pT ps.toList vs tm0, .y nb none TI tm :: st, nb + 1⟩ (asgK P ⟨N, some l, cx.B, cx.m, none, []⟩ body k R T (rndK P cx ops rest t N k nb R T TI Q)))
    (hx : evalV ⟨tm, st, nb⟩ x = some (.yl k) := by rfl) (hv : evalVs ⟨tm, st, nb⟩ xs.toList = some vs := by rfl) (hl : loopAt k st = some (some R, T, tmO) := by rfl) (hlk : lookT N tmO = some (.yl k) := by rfl) (hlo : lowT N tmO = some tm0 := by rfl)
    (hrd : cx.rd = none := by rfl) (hdf : cx.df = [] := by rfl) (hps : ps.toList.length = vs.length := by rfl) (hpb : ps.toList.all (Nat.blt · N) = true := by rfl) (hw : Wd ops tm gd := by first | exact trivial | exact wd_of rfl rfl (by with_reducible rfl)) (ht : Nat.blt t cx.N = true := by rfl) :
    VL P cx ops (⟨some t, .call { callee := .value x, args := xs, argTypes := tys }, ty, pos, af, gd⟩ :: rest) ⟨tm, st, nb⟩ Q := vl_yield hrd hdf hx hv hl hOk hlk hlo hps hpb hw ht h
/-- a call that comes back, or panics, as a test says -/
theorem vs_cif {x : Operand} {f : FuncId} {xs : Array Operand} {tys : Array TypeId} {ty : TypeId} {pos : String} {af : Array Edge} {gd : Option (Nat × Bool)} {v : V} {vs az : List V} {ds' ds : List D} {d d' : D} {c : Bool}
    (hc : VP P f ds (· = if c then .ret d else .panic d')) (k1 : c = true → VL P cx ops rest ⟨(t, .d d) :: tm, st, nb⟩ Q) (k2 : c = false → Q (.panic (.d d')) ⟨tm, st, nb⟩) (hx : evalV ⟨tm, st, nb⟩ x = some v := by rfl) (hv : evalVs ⟨tm, st, nb⟩ xs.toList = some vs := by rfl) (hf : fnV v vs = some (f, az) := by rfl) (ha : AD st az ds' := by first | exact ad_of rfl | ((repeat' (first | exact ad_nil | exact ad_map | ((apply ad_cons); rfl))); fail_if_success (focus skip))) (hd : DLs ds' ds := by ((repeat' (first | exact dls_nil | with_reducible apply dls_cons | with_reducible exact dl_lit _ | with_reducible exact dl_lf _ | infer_instance | with_reducible apply dl_agg | with_reducible apply dl_ifc | with_reducible apply dl_pt | with_reducible apply dl_fn | with_reducible apply dl_slr | assumption | apply dl_slr)); fail_if_success (focus skip))) (hw : Wd ops tm gd := by first | exact trivial | exact wd_of rfl rfl (by with_reducible rfl)) (ht : Nat.blt t cx.N = true := by rfl) :
    VL P cx ops (⟨some t, .call { callee := .value x, args := xs, argTypes := tys }, ty, pos, af, gd⟩ :: rest) ⟨tm, st, nb⟩ Q := by
  cases c with
  | true => exact vl_ret hc hx hv hf ha hd hw ht (k1 rfl)
  | false => exact vl_pan hc hx hv hf ha hd hw ht (k2 rfl)
theorem vs_cifp {x : Operand} {f : FuncId} {xs : Array Operand} {tys : Array TypeId} {ty : TypeId} {pos : String} {af : Array Edge} {gd : Option (Nat × Bool)} {v : V} {vs az : List V} {ds' ds : List D} {d d' : D} {p : Prop} [Decidable p]
    (hc : VP P f ds (· = if decide p then .ret d else .panic d')) (k1 : p → VL P cx ops rest ⟨(t, .d d) :: tm, st, nb⟩ Q) (k2 : ¬ p → Q (.panic (.d d')) ⟨tm, st, nb⟩) (hx : evalV ⟨tm, st, nb⟩ x = some v := by rfl) (hv : evalVs ⟨tm, st, nb⟩ xs.toList = some vs := by rfl) (hf : fnV v vs = some (f, az) := by rfl) (ha : AD st az ds' := by first | exact ad_of rfl | ((repeat' (first | exact ad_nil | exact ad_map | ((apply ad_cons); rfl))); fail_if_success (focus skip))) (hd : DLs ds' ds := by ((repeat' (first | exact dls_nil | with_reducible apply dls_cons | with_reducible exact dl_lit _ | with_reducible exact dl_lf _ | infer_instance | with_reducible apply dl_agg | with_reducible apply dl_ifc | with_reducible apply dl_pt | with_reducible apply dl_fn | with_reducible apply dl_slr | assumption | apply dl_slr)); fail_if_success (focus skip))) (hw : Wd ops tm gd := by first | exact trivial | exact wd_of rfl rfl (by with_reducible rfl)) (ht : Nat.blt t cx.N = true := by rfl) :
    VL P cx ops (⟨some t, .call { callee := .value x, args := xs, argTypes := tys }, ty, pos, af, gd⟩ :: rest) ⟨tm, st, nb⟩ Q := vs_cif hc (fun h => k1 (of_decide_eq_true h)) (fun h => k2 (of_decide_eq_false h)) hx hv hf ha hd hw ht
/-! ### the end of a contract's walk, said in the contract's names -/
def SubR (m : Nat) (r : RC) (st : List E) (nb : Nat) (r' : RC) (st' : List E) (nb' : Nat) : Prop :=
  ∀ B g w e, SimS B g w st → Inv B nb g w → vcrel B g w r e → ∃ g', Ext m g w g' w ∧ SimS B g' w st' ∧ Inv B nb' g' w ∧ vcrel B g' w r' e ∧ m ≤ nb'
def subK (m : Nat) (r' : RC) (st' : List E) (nb' : Nat) : RC → List E → Nat → Prop := fun r s n => SubR m r s n r' st' nb'
theorem ren_ext {B n m nb : Nat} {ρ : Ren} {g : G} {w : World} (hi : Inv B nb g w) (hρ : renOk m ρ = true) (hmn : m ≤ n) : Ext m g w (g.ren ρ n) w := by
  obtain ⟨_, hk⟩ := renOk_spec hρ
  have hno : ∀ {k}, k < m → lookR k ρ = none := fun {k} hlt => by
    cases hq : lookR k ρ with
    | none => rfl
    | some p => have := (hk hq).1; omega
  refine ⟨rfl, rfl, rfl, Nat.le_refl _, fun hk e => ?_, fun hk e => ?_, fun b _ hp => ⟨ren_prot hp, rfl⟩, rfl, fun _ _ => rfl⟩
  · simp only [G.ren]; rw [if_pos (by omega)]; exact e
  · simp only [G.ren]; rw [if_pos (by omega), hno hk]; exact e
theorem subR_ret {m nb' : Nat} {v v' : V} {st' : List E} (ρ : Ren) (hv : RLe nb' ρ st v' v) (h2 : EntR nb' ρ st st') (hρ : renOk m ρ = true) (h3 : Nat.ble m nb' = true) : SubR m (.ret v) st nb (.ret v') st' nb' := fun B g w e hs hi hr => by
  obtain ⟨u, rfl, hu⟩ := hr
  have hm := Nat.le_of_ble_eq_true h3
  exact ⟨g.ren ρ nb', ren_ext hi hρ hm, ⟨fun hc => entR_cell hs h2 hc, fun hr => entR_row hs h2 hr, fun hl => entR_loop hs h2 hl⟩, ren_inv hi hρ, ⟨u, rfl, hv _ _ _ _ hs hu⟩, hm⟩
theorem subR_pan {m nb' : Nat} {v v' : V} {st' : List E} (ρ : Ren) (hv : RLe nb' ρ st v' v) (h2 : EntR nb' ρ st st') (hρ : renOk m ρ = true) (h3 : Nat.ble m nb' = true) : SubR m (.panic v) st nb (.panic v') st' nb' := fun B g w e hs hi hr => by
  obtain ⟨u, rfl, hu⟩ := hr
  have hm := Nat.le_of_ble_eq_true h3
  exact ⟨g.ren ρ nb', ren_ext hi hρ hm, ⟨fun hc => entR_cell hs h2 hc, fun hr => entR_row hs h2 hr, fun hl => entR_loop hs h2 hl⟩, ren_inv hi hρ, ⟨u, rfl, hv _ _ _ _ hs hu⟩, hm⟩
theorem nx_sub {m nb' : Nat} {v v' : V} {st' : List E} (ρ : Ren) (hv : RLe nb' ρ st v' v := by repeat' (first | exact trivial | exact rle_nil | refine rle_cons ?_ ?_ | exact rle_any | exact rle_dd | exact rle_ptr rfl | exact rle_row rfl rfl | exact rle_rowk rfl rfl | refine rle_agg ?_ | refine rle_tup ?_ | refine rle_ifc ?_ | refine rle_fn ?_ ?_ | exact rle_ep | exact rle_sv rfl | exact rle_yl rfl | refine ⟨⟨rfl, _, rfl, ?_⟩, ?_⟩ | exact rle_d rfl (by infer_instance) | refine ⟨⟨_, rfl, ?_⟩, ?_⟩ | refine ⟨⟨rfl, .inl ⟨rfl, _, _, rfl, rfl⟩⟩, ?_⟩ | refine ⟨⟨rfl, .inr ⟨rfl, rfl, rfl⟩⟩, ?_⟩ | refine ⟨⟨rfl, _, rfl, ?_⟩, ?_⟩ | refine ⟨?_, ?_⟩)) (h2 : EntR nb' ρ st st' := by repeat' (first | exact trivial | exact rle_nil | refine rle_cons ?_ ?_ | exact rle_any | exact rle_dd | exact rle_ptr rfl | exact rle_row rfl rfl | exact rle_rowk rfl rfl | refine rle_agg ?_ | refine rle_tup ?_ | refine rle_ifc ?_ | refine rle_fn ?_ ?_ | exact rle_ep | exact rle_sv rfl | exact rle_yl rfl | refine ⟨⟨rfl, _, rfl, ?_⟩, ?_⟩ | exact rle_d rfl (by infer_instance) | refine ⟨⟨_, rfl, ?_⟩, ?_⟩ | refine ⟨⟨rfl, .inl ⟨rfl, _, _, rfl, rfl⟩⟩, ?_⟩ | refine ⟨⟨rfl, .inr ⟨rfl, rfl, rfl⟩⟩, ?_⟩ | refine ⟨⟨rfl, _, rfl, ?_⟩, ?_⟩ | refine ⟨?_, ?_⟩)) (hρ : renOk m ρ = true := by first | rfl | decide) (h3 : Nat.ble m nb' = true := by rfl) : subK m (.ret v') st' nb' (.ret v) st nb := subR_ret ρ hv h2 hρ h3
theorem nx_subp {m nb' : Nat} {v v' : V} {st' : List E} (ρ : Ren) (hv : RLe nb' ρ st v' v := by repeat' (first | exact trivial | exact rle_nil | refine rle_cons ?_ ?_ | exact rle_any | exact rle_dd | exact rle_ptr rfl | exact rle_row rfl rfl | exact rle_rowk rfl rfl | refine rle_agg ?_ | refine rle_tup ?_ | refine rle_ifc ?_ | refine rle_fn ?_ ?_ | exact rle_ep | exact rle_sv rfl | exact rle_yl rfl | refine ⟨⟨rfl, _, rfl, ?_⟩, ?_⟩ | exact rle_d rfl (by infer_instance) | refine ⟨⟨_, rfl, ?_⟩, ?_⟩ | refine ⟨⟨rfl, .inl ⟨rfl, _, _, rfl, rfl⟩⟩, ?_⟩ | refine ⟨⟨rfl, .inr ⟨rfl, rfl, rfl⟩⟩, ?_⟩ | refine ⟨⟨rfl, _, rfl, ?_⟩, ?_⟩ | refine ⟨?_, ?_⟩)) (h2 : EntR nb' ρ st st' := by repeat' (first | exact trivial | exact rle_nil | refine rle_cons ?_ ?_ | exact rle_any | exact rle_dd | exact rle_ptr rfl | exact rle_row rfl rfl | exact rle_rowk rfl rfl | refine rle_agg ?_ | refine rle_tup ?_ | refine rle_ifc ?_ | refine rle_fn ?_ ?_ | exact rle_ep | exact rle_sv rfl | exact rle_yl rfl | refine ⟨⟨rfl, _, rfl, ?_⟩, ?_⟩ | exact rle_d rfl (by infer_instance) | refine ⟨⟨_, rfl, ?_⟩, ?_⟩ | refine ⟨⟨rfl, .inl ⟨rfl, _, _, rfl, rfl⟩⟩, ?_⟩ | refine ⟨⟨rfl, .inr ⟨rfl, rfl, rfl⟩⟩, ?_⟩ | refine ⟨⟨rfl, _, rfl, ?_⟩, ?_⟩ | refine ⟨?_, ?_⟩)) (hρ : renOk m ρ = true := by first | rfl | decide) (h3 : Nat.ble m nb' = true := by rfl) : subK m (.panic v') st' nb' (.panic v) st nb := subR_pan ρ hv h2 hρ h3
theorem vm1_of {P : Program} {f : FuncId} {fn : Func} {c : Code} {m : Nat} {vs : List V} {st : List E} {nb nb' : Nat} {r : RC} {st' : List E} (hf : P.funcs[f]? = some fn) (hb : fn.body = some c) {N : Nat} (hN : fn.ntmps = N) {rs : List ResultVar} (hrs0 : fn.results = rs.toArray)
    (h : ∀ B M, VW P ⟨N, none, B, m, some M, []⟩ c ⟨argsT 0 vs, st, nb⟩ (retC P rs (mK m (subK m r st' nb')))) (hle : Nat.ble vs.length N = true := by rfl) (hname : (fn.name == "runtime.NumGoroutine") = false := by kernel_rfl) : VM1 P f m vs st nb r st' nb' := fun B => by
  have hv := vmb_of (B := B) hf hb hN hrs0 (h B) hle hname
  refine ⟨hv.1, fun g w us h1 h2 h3 => (hv.2 g w us h1 h2 h3).mono ?_⟩
  rintro e w' ⟨g1, st1, nb1, r1, k1, k2, k3, k4, k5, k6⟩
  obtain ⟨g2, q1, q2, q3, q4, q5⟩ := k5 B g1 w' e k2 k3 k4
  exact ⟨g2, st', nb', r, k1.trans2 q1, q2, q3, q4, ⟨rfl, rfl, rfl⟩, q5⟩
/-- a cell that holds nil is a row -/
theorem nx_subn {m nb' : Nat} {r r' : RC} {st' : List E} (k off : Nat) (e : TypeId) (sz : Nat) (ht : cellAt k off st = some (.d (.lit (.slice none 0 0)))) (h : subK m r' st' nb' r (.c k off [.row nb 0] :: .r true true nb 0 e sz [] :: st) (nb + 1)) : subK m r' st' nb' r st nb := fun B g w e' hs hi hr => by
  obtain ⟨g1, h1, h2, h3, h4⟩ := SimS.nilC hs hi e sz ht
  obtain ⟨g2, k1, k2⟩ := h B g1 w e' h3 h4 (by
    cases r with
    | ret v => obtain ⟨u, e, hu⟩ := hr; exact ⟨u, e, h1.vrep hu⟩
    | panic v => obtain ⟨u, e, hu⟩ := hr; exact ⟨u, e, h1.vrep hu⟩)
  exact ⟨g2, (h1.ext m).trans2 k1, k2⟩
/-! ### regions that draw their order, and turn rows -/
theorem purge_sim {B : Nat} {g : G} {w : World} {ks : List Nat} {q : List E} (hq : purgeE ks st = some q) (h : SimS B g w st) : SimS B g w q :=
  ⟨fun hc => h.cell (purge_cell hq hc).2, fun hr => h.row (purge_row hq hr).2, fun hl => h.loop (purge_loop hq hl).2⟩
def purgeR (ks : List Nat) : List E → Option (List E)
  | [] => some []
  | .c k off vs :: r => (match purgeR ks r with
    | some q => (match memB k ks with
      | true => some q
      | false => some (.c k off vs :: q))
    | none => none)
  | .y k lp T tm :: r => (match purgeR ks r with
    | some q => some (.y k lp T tm :: q)
    | none => none)
  | .r o nw k ver e sz l :: r => (match purgeR ks r with
    | some q => (match memB k ks with
      | true => some q
      | false => some (.r o nw k ver e sz l :: q))
    | none => none)
theorem purgeR_none {ks : List Nat} {k : Nat} (hm : memB k ks = true) : ∀ {st q : List E}, purgeR ks st = some q → rowAt k q = none ∧ ∀ o, cellAt k o q = none
  | [], q, h => by simp only [purgeR, Option.some.injEq] at h; subst h; exact ⟨rfl, fun _ => rfl⟩
  | .c k' .. :: r, q, h => by
    simp only [purgeR] at h
    split at h
    · rename_i q' hq
      have ih := purgeR_none hm hq
      split at h
      · cases h; exact ih
      · rename_i hk2
        cases h
        simp only [rowAt]
        refine ⟨ih.1, fun o => ?_⟩
        simp only [cellAt]
        split
        · rename_i hb
          have := Nat.eq_of_beq_eq_true hb
          subst this
          rw [hm] at hk2; cases hk2
        · exact ih.2 o
    · cases h
  | .y .. :: r, q, h => by
    simp only [purgeR] at h
    split at h
    · rename_i q' hq; cases h; simp only [rowAt, cellAt]; exact purgeR_none hm hq
    · cases h
  | .r .. :: r, q, h => by
    simp only [purgeR] at h
    split at h
    · rename_i q' hq
      have ih := purgeR_none hm hq
      split at h
      · cases h; exact ih
      · rename_i hk2
        cases h
        simp only [rowAt, cellAt]
        refine ⟨?_, ih.2⟩
        split
        · rename_i hb
          have := Nat.eq_of_beq_eq_true hb
          subst this
          rw [hm] at hk2; cases hk2
        · exact ih.1
    · cases h
theorem purgeR_spec {ks : List Nat} : ∀ {st q : List E}, purgeR ks st = some q → (∀ i o x, cellAt i o q = some x → cellAt i o st = some x) ∧ (∀ i x, rowAt i q = some x → rowAt i st = some x) ∧ ∀ i, loopAt i q = loopAt i st
  | [], q, h => by simp only [purgeR, Option.some.injEq] at h; subst h; exact ⟨fun _ _ _ h => h, fun _ _ h => h, fun _ => rfl⟩
  | .c k off vs :: r, q, h => by
    simp only [purgeR] at h
    split at h
    · rename_i q' hq
      obtain ⟨h1, h2, h3⟩ := purgeR_spec hq
      split at h
      · rename_i hm
        cases h
        refine ⟨fun i o x hx => ?_, fun i x hx => by simp only [rowAt]; exact h2 i x hx, fun i => by simp only [loopAt]; exact h3 i⟩
        simp only [cellAt]
        split
        · rename_i hb
          have := Nat.eq_of_beq_eq_true hb
          subst this
          rw [(purgeR_none hm hq).2] at hx; cases hx
        · exact h1 i o x hx
      · cases h
        refine ⟨fun i o x hx => ?_, fun i x hx => by simp only [rowAt] at hx ⊢; exact h2 i x hx, fun i => by simp only [loopAt]; exact h3 i⟩
        simp only [cellAt] at hx ⊢
        split
        · rename_i hb
          simp only [hb] at hx
          split
          · rename_i ho
            simp only [ho] at hx
            split
            · rename_i v' hv'; simp only [hv'] at hx; exact hx
            · rename_i hv'; simp only [hv'] at hx; exact h1 _ _ _ hx
          · rename_i ho
            simp only [ho] at hx
            exact h1 _ _ _ hx
        · rename_i hb; simp only [hb] at hx; exact h1 _ _ _ hx
    · cases h
  | .y .. :: r, q, h => by
    simp only [purgeR] at h
    split at h
    · rename_i q' hq; cases h; obtain ⟨h1, h2, h3⟩ := purgeR_spec hq
      exact ⟨fun i o x hx => by simp only [cellAt] at hx ⊢; exact h1 i o x hx, fun i x hx => by simp only [rowAt] at hx ⊢; exact h2 i x hx, fun i => by simp only [loopAt, h3]⟩
    · cases h
  | .r o nw k ver e sz l :: r, q, h => by
    simp only [purgeR] at h
    split at h
    · rename_i q' hq
      obtain ⟨h1, h2, h3⟩ := purgeR_spec hq
      split at h
      · rename_i hm
        cases h
        refine ⟨fun i o x hx => by simp only [cellAt]; exact h1 i o x hx, fun i x hx => ?_, fun i => by simp only [loopAt]; exact h3 i⟩
        simp only [rowAt]
        split
        · rename_i hb
          have := Nat.eq_of_beq_eq_true hb
          subst this
          rw [(purgeR_none hm hq).1] at hx; cases hx
        · exact h2 i x hx
      · cases h
        refine ⟨fun i o x hx => by simp only [cellAt] at hx ⊢; exact h1 i o x hx, fun i x hx => ?_, fun i => by simp only [loopAt]; exact h3 i⟩
        simp only [rowAt] at hx ⊢
        split
        · rename_i hb; simp only [hb] at hx; exact hx
        · rename_i hb; simp only [hb] at hx; exact h2 i x hx
    · cases h
theorem vw_drawkx {l : List Oper} {id n : Nat} {hd tl : List Oper} {st0 : List E} (ks : List Nat) (h : VD P cx l tm st0 st nb (dstL hd) Q hd tl 0 [] tm st0 nb) (hp : purgeR ks st = some st0 := by rfl) (hk : DrawOK P l n hd tl := by
    first | exact .mk (n := 1) (by decide +kernel) (by kernel_rfl) rfl | exact .mk (n := 2) (by decide +kernel) (by kernel_rfl) rfl | exact .mk (n := 3) (by decide +kernel) (by kernel_rfl) rfl | exact .mk (n := 4) (by decide +kernel) (by kernel_rfl) rfl | exact .mk (n := 5) (by decide +kernel) (by kernel_rfl) rfl | exact .mk (n := 6) (by decide +kernel) (by kernel_rfl) rfl | exact .mk (n := 7) (by decide +kernel) (by kernel_rfl) rfl | exact .mk (n := 8) (by decide +kernel) (by kernel_rfl) rfl | exact .mk (n := 9) (by decide +kernel) (by kernel_rfl) rfl | exact .mk (n := 10) (by decide +kernel) (by kernel_rfl) rfl | exact .mk (n := 11) (by decide +kernel) (by kernel_rfl) rfl | exact .mk (n := 12) (by decide +kernel) (by kernel_rfl) rfl | exact .mk (n := 13) (by decide +kernel) (by kernel_rfl) rfl | exact .mk (n := 14) (by decide +kernel) (by kernel_rfl) rfl | exact .mk (n := 15) (by decide +kernel) (by kernel_rfl) rfl | exact .mk (n := 16) (by decide +kernel) (by kernel_rfl) rfl | exact .mk (n := 17) (by decide +kernel) (by kernel_rfl) rfl | exact .mk (n := 18) (by decide +kernel) (by kernel_rfl) rfl | exact .mk (n := 19) (by decide +kernel) (by kernel_rfl) rfl | exact .mk (n := 20) (by decide +kernel) (by kernel_rfl) rfl | exact .mk (n := 21) (by decide +kernel) (by kernel_rfl) rfl | exact .mk (n := 22) (by decide +kernel) (by kernel_rfl) rfl | exact .mk (n := 23) (by decide +kernel) (by kernel_rfl) rfl | exact .mk (n := 24) (by decide +kernel) (by kernel_rfl) rfl | exact .mk (n := 25) (by decide +kernel) (by kernel_rfl) rfl | exact .mk (n := 26) (by decide +kernel) (by kernel_rfl) rfl | exact .mk (n := 27) (by decide +kernel) (by kernel_rfl) rfl | exact .mk (n := 28) (by decide +kernel) (by kernel_rfl) rfl | exact .mk (n := 29) (by decide +kernel) (by kernel_rfl) rfl | exact .mk (n := 30) (by decide +kernel) (by kernel_rfl) rfl | exact .mk (n := 31) (by decide +kernel) (by kernel_rfl) rfl | exact .mk (n := 32) (by decide +kernel) (by kernel_rfl) rfl | exact .mk (n := 33) (by decide +kernel) (by kernel_rfl) rfl | exact .mk (n := 34) (by decide +kernel) (by kernel_rfl) rfl | exact .mk (n := 35) (by decide +kernel) (by kernel_rfl) rfl | exact .mk (n := 36) (by decide +kernel) (by kernel_rfl) rfl | exact .mk (n := 37) (by decide +kernel) (by kernel_rfl) rfl | exact .mk (n := 38) (by decide +kernel) (by kernel_rfl) rfl | exact .mk (n := 39) (by decide +kernel) (by kernel_rfl) rfl | exact .mk (n := 40) (by decide +kernel) (by kernel_rfl) rfl) : VW P cx (.region id l.toArray true) ⟨tm, st, nb⟩ Q :=
  vw_drawk n (fun _ _ _ h => let ⟨h1, h2, h3⟩ := purgeR_spec hp; ⟨fun hc => h.cell (h1 _ _ _ hc), fun hr => h.row (h2 _ _ hr), fun hl => h.loop (by rw [← h3]; exact hl)⟩) hk.hB hk.hm hk.hsp h
theorem eok_c {stO : List E} {k off : Nat} {vs : List V} : ∀ (n : Nat), cellsAt k off stO n = some vs → EOk stO k (.c k off vs) := fun n h => by
  refine .inr ⟨off, vs, rfl, ?_⟩
  induction n generalizing off vs with
  | zero => simp only [cellsAt, Option.some.injEq] at h; subst h; simp
  | succ n ih =>
    simp only [cellsAt] at h
    split at h
    · cases h
    · rename_i v hv
      split at h
      · cases h
      · rename_i ys hys
        cases h
        intro i x hx
        cases i with
        | zero => simp at hx; subst hx; exact hv
        | succ i => have := ih hys i x (by simpa using hx); rwa [show off + 1 + i = off + (i + 1) by omega] at this
/-- a variable is stored, in a region that draws its order -/
theorem vd_store {l : List Oper} {tm0 : List (Nat × V)} {st0 stO : List E} {nb0 : Nat} {ds : List Nat} {hd tl : List Oper} {i : Nat} {acc : List Ac} {t' ty : TypeId} {x y : Operand} {k' off sz : Nat} {ag : Bool} {z : List Value} {v : V} {vs old : List V} {pos : String} {af : Array Edge} {vis : List E} {tmI : List (Nat × V)} [hT : TyI P t' ag (sz + 1) z]
    (kk : VD P cx l tm0 st0 stO nb0 ds Q hd tl (i + 1) (⟨i, 1000000 + i, .d .any, [.c k' off vs], vis, none, some (k', .c k' off old), [.c k' off vs], none⟩ :: acc) ((1000000 + i, .d .any) :: tm) (.c k' off vs :: st) nb)
    (hsel : selT af.toList ds acc tm0 (tmpsL (Op.store t' x y).operands.toList) = some tmI := by rfl) (hvis : visF acc af.toList = some vis := by rfl)
    (hx : ∀ nb, evalV ⟨tmI, vis ++ st0, nb⟩ x = some (.ptr k' off) := by intro _; rfl) (hy : ∀ nb, evalV ⟨tmI, vis ++ st0, nb⟩ y = some v := by intro _; rfl) (hv : cellsV v = some vs := by rfl) (hl : vs.length = sz + 1 := by rfl) (h1 : leaves vs = true := by rfl)
    (hold : cellsAt k' off stO (sz + 1) = some old := by rfl) (hol : old.length = sz + 1 := by rfl)
    (hnk : noR k' (vis ++ st0) = true := by rfl) (hk : Nat.blt k' nb0 = true := by rfl) (hn0 : noR k' st0 = true := by rfl) (hnc : noC k' acc = true := by rfl) (hds : memN (1000000 + i) ds = true := by rfl) (hfa : findA (1000000 + i) acc = none := by rfl) :
    VD P cx l tm0 st0 stO nb0 ds Q (⟨none, .store t' x y, ty, pos, af, none⟩ :: hd) tl i acc tm st nb :=
  vd_cE kk (.inr ⟨rfl, rfl⟩) hds hfa hsel hvis trivial (c_store hx hy hv hl h1 hol hnk) hn0 noR_nec noR_nec (.inl rfl) (.inl ⟨rfl, ⟨Nat.le_of_ble_eq_true hk, eok_c (sz + 1) hold⟩, hnc⟩)
/-- an append, in a region that draws its order -/
theorem vd_app {l : List Oper} {tm0 : List (Nat × V)} {st0 stO : List E} {nb0 : Nat} {ds : List Nat} {hd tl : List Oper} {i : Nat} {acc : List Ac} {d : Tmp} {t ty el : TypeId} {x y : Operand} {k ver sz by_ : Nat} {l1 l2 : List (List D)} {nw : Bool} {v2 : V} {pos : String} {af : Array Edge} {vis : List E} {tmI : List (Nat × V)} {gd : Option (Nat × Bool)} [hE : SlI P t el sz by_]
    (kk : VD P cx l tm0 st0 stO nb0 ds Q hd tl (i + 1) (⟨i, d, .row k (ver + 1), [.r true nw k (ver + 1) el sz (l1 ++ l2)], vis, none, some (k, .r true nw k ver el sz l1), [.r true nw k (ver + 1) el sz (l1 ++ l2)], none⟩ :: acc) ((d, .row k (ver + 1)) :: tm) (.r true nw k (ver + 1) el sz (l1 ++ l2) :: st) nb) (hrs : resv d hd = false := by rfl)
    (hsel : selT af.toList ds acc tm0 (gT l ⟨some d, .call { callee := .builtin .append, args := #[x, y], argTypes := #[t, t] }, ty, pos, af, gd⟩ ++ tmpsL (Op.call { callee := .builtin .append, args := #[x, y], argTypes := #[t, t] }).operands.toList) = some tmI := by rfl) (hvis : visF acc af.toList = some vis := by rfl) (hw : Wd l tmI gd := by first | exact trivial | exact wd_of rfl rfl (by with_reducible rfl))
    (hx : ∀ nb, evalV ⟨tmI, vis ++ st0, nb⟩ x = some (.row k ver) := by intro _; rfl) (hr : rowAt k stO = some (true, nw, ver, el, sz, l1) := by rfl) (hk : Nat.blt k nb0 = true := by rfl) (hnc : noC k acc = true := by rfl) (hy : ∀ nb, evalV ⟨tmI, vis ++ st0, nb⟩ y = some v2 := by intro _; rfl)
    (hsrc : SrcV (vis ++ st0) sz v2 l2 := by first | exact .row rfl | exact .nil | exact .sl (by first | assumption | (simp; fail_if_success (focus skip)))) (hb : (l1.length + l2.length) * by_ ≤ 140737488355328 := by first | omega | (simp; omega)) (h0 : 0 < by_ := by decide)
    (hnk : noR k (vis ++ st0) = true := by rfl) (hn0 : noR k st0 = true := by rfl) (hd' : Nat.blt d cx.N = true := by rfl) (hds : memN d ds = true := by rfl) (hfa : findA d acc = none := by rfl) :
    VD P cx l tm0 st0 stO nb0 ds Q (⟨some d, .call { callee := .builtin .append, args := #[x, y], argTypes := #[t, t] }, ty, pos, af, gd⟩ :: hd) tl i acc tm st nb :=
  vd_cE kk (.inl ⟨rfl, Nat.le_of_ble_eq_true hd'⟩) hds hfa hsel hvis hw (c_app hx hy hsrc hnk hb h0) hn0 noR_ne noR_ne (.inl rfl) (.inl ⟨rfl, ⟨Nat.le_of_ble_eq_true hk, .inl ⟨nw, ver, el, sz, l1, rfl, hr⟩⟩, hnc⟩)
/-- an append, in a region that draws its order; left to one behind it -/
theorem vd_appp {l : List Oper} {tm0 : List (Nat × V)} {st0 stO : List E} {nb0 : Nat} {ds : List Nat} {hd tl : List Oper} {i : Nat} {acc : List Ac} {d : Tmp} {t ty el : TypeId} {x y : Operand} {k ver sz by_ : Nat} {l1 l2 : List (List D)} {nw : Bool} {v2 : V} {pos : String} {af : Array Edge} {vis : List E} {tmI : List (Nat × V)} {gd : Option (Nat × Bool)} [hE : SlI P t el sz by_]
    (kk : VD P cx l tm0 st0 stO nb0 ds Q hd tl (i + 1) (⟨i, d, .row k (ver + 1), [], vis, none, some (k, .r true nw k ver el sz l1), [.r true nw k (ver + 1) el sz (l1 ++ l2)], none⟩ :: acc) ((d, .row k (ver + 1)) :: tm) (st) nb) (hrs : resv d hd = true := by rfl)
    (hsel : selT af.toList ds acc tm0 (gT l ⟨some d, .call { callee := .builtin .append, args := #[x, y], argTypes := #[t, t] }, ty, pos, af, gd⟩ ++ tmpsL (Op.call { callee := .builtin .append, args := #[x, y], argTypes := #[t, t] }).operands.toList) = some tmI := by rfl) (hvis : visF acc af.toList = some vis := by rfl) (hw : Wd l tmI gd := by first | exact trivial | exact wd_of rfl rfl (by with_reducible rfl))
    (hx : ∀ nb, evalV ⟨tmI, vis ++ st0, nb⟩ x = some (.row k ver) := by intro _; rfl) (hr : rowAt k stO = some (true, nw, ver, el, sz, l1) := by rfl) (hk : Nat.blt k nb0 = true := by rfl) (hnc : noC k acc = true := by rfl) (hy : ∀ nb, evalV ⟨tmI, vis ++ st0, nb⟩ y = some v2 := by intro _; rfl)
    (hsrc : SrcV (vis ++ st0) sz v2 l2 := by first | exact .row rfl | exact .nil | exact .sl (by first | assumption | (simp; fail_if_success (focus skip)))) (hb : (l1.length + l2.length) * by_ ≤ 140737488355328 := by first | omega | (simp; omega)) (h0 : 0 < by_ := by decide)
    (hnk : noR k (vis ++ st0) = true := by rfl) (hn0 : noR k st0 = true := by rfl) (hd' : Nat.blt d cx.N = true := by rfl) (hds : memN d ds = true := by rfl) (hfa : findA d acc = none := by rfl) :
    VD P cx l tm0 st0 stO nb0 ds Q (⟨some d, .call { callee := .builtin .append, args := #[x, y], argTypes := #[t, t] }, ty, pos, af, gd⟩ :: hd) tl i acc tm st nb :=
  vd_cE kk (.inl ⟨rfl, Nat.le_of_ble_eq_true hd'⟩) hds hfa hsel hvis hw (c_app hx hy hsrc hnk hb h0) hn0 noR_ne noR_ne (.inr rfl) (.inl ⟨rfl, ⟨Nat.le_of_ble_eq_true hk, .inl ⟨nw, ver, el, sz, l1, rfl, hr⟩⟩, hnc⟩)
/-- an append, in a region that draws its order; to a row of this region -/
theorem vd_appz {l : List Oper} {tm0 : List (Nat × V)} {st0 stO : List E} {nb0 : Nat} {ds : List Nat} {hd tl : List Oper} {i : Nat} {acc : List Ac} {d : Tmp} {t ty el : TypeId} {x y : Operand} {k ver sz by_ : Nat} {l1 l2 : List (List D)} {nw : Bool} {v2 : V} {pos : String} {af : Array Edge} {vis : List E} {tmI : List (Nat × V)} {gd : Option (Nat × Bool)} {zi zd : Nat} {zv : V} {zs : List E} {zn : Option Nat} {zc : Option (Nat × E)} {zr : Option Nat} [hE : SlI P t el sz by_]
    (kk : VD P cx l tm0 st0 stO nb0 ds Q hd tl (i + 1) (⟨i, d, .row k (ver + 1), [.r true nw k (ver + 1) el sz (l1 ++ l2)], vis, none, some (k, .r true nw k ver el sz l1), [.r true nw k (ver + 1) el sz (l1 ++ l2)], some zi⟩ :: acc) ((d, .row k (ver + 1)) :: tm) (.r true nw k (ver + 1) el sz (l1 ++ l2) :: st) nb) (hrs : resv d hd = false := by rfl)
    (hsel : selT af.toList ds acc tm0 (gT l ⟨some d, .call { callee := .builtin .append, args := #[x, y], argTypes := #[t, t] }, ty, pos, af, gd⟩ ++ tmpsL (Op.call { callee := .builtin .append, args := #[x, y], argTypes := #[t, t] }).operands.toList) = some tmI := by rfl) (hvis : visF acc af.toList = some vis := by rfl) (hw : Wd l tmI gd := by first | exact trivial | exact wd_of rfl rfl (by with_reducible rfl))
    (hx : ∀ nb, evalV ⟨tmI, vis ++ st0, nb⟩ x = some (.row k ver) := by intro _; rfl) (hz : lastT k acc = some ⟨zi, zd, zv, [], zs, zn, zc, [.r true nw k ver el sz l1], zr⟩ := by rfl) (hzm : memE zi af.toList = true := by rfl) (hy : ∀ nb, evalV ⟨tmI, vis ++ st0, nb⟩ y = some v2 := by intro _; rfl)
    (hsrc : SrcV (vis ++ st0) sz v2 l2 := by first | exact .row rfl | exact .nil | exact .sl (by first | assumption | (simp; fail_if_success (focus skip)))) (hb : (l1.length + l2.length) * by_ ≤ 140737488355328 := by first | omega | (simp; omega)) (h0 : 0 < by_ := by decide)
    (hnk : noR k (vis ++ st0) = true := by rfl) (hn0 : noR k st0 = true := by rfl) (hd' : Nat.blt d cx.N = true := by rfl) (hds : memN d ds = true := by rfl) (hfa : findA d acc = none := by rfl) :
    VD P cx l tm0 st0 stO nb0 ds Q (⟨some d, .call { callee := .builtin .append, args := #[x, y], argTypes := #[t, t] }, ty, pos, af, gd⟩ :: hd) tl i acc tm st nb :=
  vd_cE kk (.inl ⟨rfl, Nat.le_of_ble_eq_true hd'⟩) hds hfa hsel hvis hw (c_app hx hy hsrc hnk hb h0) hn0 noR_ne noR_ne (.inl rfl) (.inr ⟨_, hz, rfl, rfl, rfl, hzm⟩)
/-- an append, in a region that draws its order; to a row of this region, left to one behind it -/
theorem vd_appzp {l : List Oper} {tm0 : List (Nat × V)} {st0 stO : List E} {nb0 : Nat} {ds : List Nat} {hd tl : List Oper} {i : Nat} {acc : List Ac} {d : Tmp} {t ty el : TypeId} {x y : Operand} {k ver sz by_ : Nat} {l1 l2 : List (List D)} {nw : Bool} {v2 : V} {pos : String} {af : Array Edge} {vis : List E} {tmI : List (Nat × V)} {gd : Option (Nat × Bool)} {zi zd : Nat} {zv : V} {zs : List E} {zn : Option Nat} {zc : Option (Nat × E)} {zr : Option Nat} [hE : SlI P t el sz by_]
    (kk : VD P cx l tm0 st0 stO nb0 ds Q hd tl (i + 1) (⟨i, d, .row k (ver + 1), [], vis, none, some (k, .r true nw k ver el sz l1), [.r true nw k (ver + 1) el sz (l1 ++ l2)], some zi⟩ :: acc) ((d, .row k (ver + 1)) :: tm) (st) nb) (hrs : resv d hd = true := by rfl)
    (hsel : selT af.toList ds acc tm0 (gT l ⟨some d, .call { callee := .builtin .append, args := #[x, y], argTypes := #[t, t] }, ty, pos, af, gd⟩ ++ tmpsL (Op.call { callee := .builtin .append, args := #[x, y], argTypes := #[t, t] }).operands.toList) = some tmI := by rfl) (hvis : visF acc af.toList = some vis := by rfl) (hw : Wd l tmI gd := by first | exact trivial | exact wd_of rfl rfl (by with_reducible rfl))
    (hx : ∀ nb, evalV ⟨tmI, vis ++ st0, nb⟩ x = some (.row k ver) := by intro _; rfl) (hz : lastT k acc = some ⟨zi, zd, zv, [], zs, zn, zc, [.r true nw k ver el sz l1], zr⟩ := by rfl) (hzm : memE zi af.toList = true := by rfl) (hy : ∀ nb, evalV ⟨tmI, vis ++ st0, nb⟩ y = some v2 := by intro _; rfl)
    (hsrc : SrcV (vis ++ st0) sz v2 l2 := by first | exact .row rfl | exact .nil | exact .sl (by first | assumption | (simp; fail_if_success (focus skip)))) (hb : (l1.length + l2.length) * by_ ≤ 140737488355328 := by first | omega | (simp; omega)) (h0 : 0 < by_ := by decide)
    (hnk : noR k (vis ++ st0) = true := by rfl) (hn0 : noR k st0 = true := by rfl) (hd' : Nat.blt d cx.N = true := by rfl) (hds : memN d ds = true := by rfl) (hfa : findA d acc = none := by rfl) :
    VD P cx l tm0 st0 stO nb0 ds Q (⟨some d, .call { callee := .builtin .append, args := #[x, y], argTypes := #[t, t] }, ty, pos, af, gd⟩ :: hd) tl i acc tm st nb :=
  vd_cE kk (.inl ⟨rfl, Nat.le_of_ble_eq_true hd'⟩) hds hfa hsel hvis hw (c_app hx hy hsrc hnk hb h0) hn0 noR_ne noR_ne (.inr rfl) (.inr ⟨_, hz, rfl, rfl, rfl, hzm⟩)
end

end Go.Proofs.Ytjfaihpiohccbaa

namespace Go.Proofs.Ytjfaihpiohccbaa

instance : TyI Try.prog 1 false 1 [.nilFunc] := ⟨by kernel_rfl, by kernel_rfl⟩
instance : NIfI Try.prog 1 := ⟨by kernel_rfl⟩
instance : TyI Try.prog 2 false 1 [(.int .i64 0)] := ⟨by kernel_rfl, by kernel_rfl⟩
instance : NIfI Try.prog 2 := ⟨by kernel_rfl⟩
instance : IntI Try.prog 2 .i64 := ⟨by kernel_rfl⟩
instance : TyI Try.prog 3 false 1 [(.int .i64 0)] := ⟨by kernel_rfl, by kernel_rfl⟩
instance : NIfI Try.prog 3 := ⟨by kernel_rfl⟩
instance : IntI Try.prog 3 .i64 := ⟨by kernel_rfl⟩
instance : TyI Try.prog 4 false 1 [(.bool false)] := ⟨by kernel_rfl, by kernel_rfl⟩
instance : NIfI Try.prog 4 := ⟨by kernel_rfl⟩
instance : BoolI Try.prog 4 := ⟨by kernel_rfl⟩
instance : TyI Try.prog 5 false 1 [(.int .u8 0)] := ⟨by kernel_rfl, by kernel_rfl⟩
instance : NIfI Try.prog 5 := ⟨by kernel_rfl⟩
instance : IntI Try.prog 5 .u8 := ⟨by kernel_rfl⟩
instance : TyI Try.prog 6 false 1 [(.int .u8 0)] := ⟨by kernel_rfl, by kernel_rfl⟩
instance : NIfI Try.prog 6 := ⟨by kernel_rfl⟩
instance : IntI Try.prog 6 .u8 := ⟨by kernel_rfl⟩
instance : TyI Try.prog 7 true 4 [(.int .i64 0), (.int .i64 0), (.bool false), (.int .u8 0)] := ⟨by kernel_rfl, by kernel_rfl⟩
instance : NIfI Try.prog 7 := ⟨by kernel_rfl⟩
instance : PlI Try.prog 7 [(0, 1), (1, 1), (2, 1), (3, 1)] := ⟨by kernel_rfl⟩
instance : FldI Try.prog 7 0 0 1 false := ⟨by kernel_rfl, by decide⟩
instance : FldI Try.prog 7 1 1 1 false := ⟨by kernel_rfl, by decide⟩
instance : FldI Try.prog 7 2 2 1 false := ⟨by kernel_rfl, by decide⟩
instance : FldI Try.prog 7 3 3 1 false := ⟨by kernel_rfl, by decide⟩
instance : TyI Try.prog 8 true 4 [(.int .i64 0), (.int .i64 0), (.bool false), (.int .u8 0)] := ⟨by kernel_rfl, by kernel_rfl⟩
instance : NIfI Try.prog 8 := ⟨by kernel_rfl⟩
instance : PlI Try.prog 8 [(0, 1), (1, 1), (2, 1), (3, 1)] := ⟨by kernel_rfl⟩
instance : FldI Try.prog 8 0 0 1 false := ⟨by kernel_rfl, by decide⟩
instance : FldI Try.prog 8 1 1 1 false := ⟨by kernel_rfl, by decide⟩
instance : FldI Try.prog 8 2 2 1 false := ⟨by kernel_rfl, by decide⟩
instance : FldI Try.prog 8 3 3 1 false := ⟨by kernel_rfl, by decide⟩
instance : TyI Try.prog 9 false 1 [(.string ⟨#[]⟩)] := ⟨by kernel_rfl, by kernel_rfl⟩
instance : NIfI Try.prog 9 := ⟨by kernel_rfl⟩
instance : StrI Try.prog 9 := ⟨by kernel_rfl⟩
instance : TyI Try.prog 10 false 1 [(.string ⟨#[]⟩)] := ⟨by kernel_rfl, by kernel_rfl⟩
instance : NIfI Try.prog 10 := ⟨by kernel_rfl⟩
instance : StrI Try.prog 10 := ⟨by kernel_rfl⟩
instance : TyI Try.prog 11 false 1 [(.string ⟨#[]⟩)] := ⟨by kernel_rfl, by kernel_rfl⟩
instance : NIfI Try.prog 11 := ⟨by kernel_rfl⟩
instance : StrI Try.prog 11 := ⟨by kernel_rfl⟩
instance : TyI Try.prog 12 false 1 [(.int .u64 0)] := ⟨by kernel_rfl, by kernel_rfl⟩
instance : NIfI Try.prog 12 := ⟨by kernel_rfl⟩
instance : IntI Try.prog 12 .u64 := ⟨by kernel_rfl⟩
instance : TyI Try.prog 13 true 2 [(.string ⟨#[]⟩), (.int .u64 0)] := ⟨by kernel_rfl, by kernel_rfl⟩
instance : NIfI Try.prog 13 := ⟨by kernel_rfl⟩
instance : PlI Try.prog 13 [(0, 1), (1, 1)] := ⟨by kernel_rfl⟩
instance : FldI Try.prog 13 0 0 1 false := ⟨by kernel_rfl, by decide⟩
instance : FldI Try.prog 13 1 1 1 false := ⟨by kernel_rfl, by decide⟩
instance : TyI Try.prog 14 true 2 [(.string ⟨#[]⟩), (.int .u64 0)] := ⟨by kernel_rfl, by kernel_rfl⟩
instance : NIfI Try.prog 14 := ⟨by kernel_rfl⟩
instance : PlI Try.prog 14 [(0, 1), (1, 1)] := ⟨by kernel_rfl⟩
instance : FldI Try.prog 14 0 0 1 false := ⟨by kernel_rfl, by decide⟩
instance : FldI Try.prog 14 1 1 1 false := ⟨by kernel_rfl, by decide⟩
instance : TyI Try.prog 15 false 1 [(.pointer none)] := ⟨by kernel_rfl, by kernel_rfl⟩
instance : NIfI Try.prog 15 := ⟨by kernel_rfl⟩
instance : TyI Try.prog 16 false 1 [(.pointer none)] := ⟨by kernel_rfl, by kernel_rfl⟩
instance : NIfI Try.prog 16 := ⟨by kernel_rfl⟩
instance : TyI Try.prog 17 false 1 [(.pointer none)] := ⟨by kernel_rfl, by kernel_rfl⟩
instance : NIfI Try.prog 17 := ⟨by kernel_rfl⟩
instance : TyI Try.prog 18 true 1 [(.pointer none)] := ⟨by kernel_rfl, by kernel_rfl⟩
instance : NIfI Try.prog 18 := ⟨by kernel_rfl⟩
instance : PlI Try.prog 18 [(0, 1)] := ⟨by kernel_rfl⟩
instance : FldI Try.prog 18 0 0 1 false := ⟨by kernel_rfl, by decide⟩
instance : TyI Try.prog 19 true 1 [(.pointer none)] := ⟨by kernel_rfl, by kernel_rfl⟩
instance : NIfI Try.prog 19 := ⟨by kernel_rfl⟩
instance : PlI Try.prog 19 [(0, 1)] := ⟨by kernel_rfl⟩
instance : FldI Try.prog 19 0 0 1 false := ⟨by kernel_rfl, by decide⟩
instance : TyI Try.prog 20 false 1 [.nilIface] := ⟨by kernel_rfl, by kernel_rfl⟩
instance : IfcI Try.prog 20 := ⟨by kernel_rfl⟩
instance : TyI Try.prog 21 false 1 [(.int .i32 0)] := ⟨by kernel_rfl, by kernel_rfl⟩
instance : NIfI Try.prog 21 := ⟨by kernel_rfl⟩
instance : IntI Try.prog 21 .i32 := ⟨by kernel_rfl⟩
instance : TyI Try.prog 22 false 1 [(.slice none 0 0)] := ⟨by kernel_rfl, by kernel_rfl⟩
instance : NIfI Try.prog 22 := ⟨by kernel_rfl⟩
instance : SlI Try.prog 22 5 1 1 := ⟨Elem.mk' (z := (.int .u8 0)) (by kernel_rfl) (by kernel_rfl) (by rfl) (by decide)⟩
instance : TyI Try.prog 23 true 4 [(.slice none 0 0), (.slice none 0 0), (.slice none 0 0), (.slice none 0 0)] := ⟨by kernel_rfl, by kernel_rfl⟩
instance : NIfI Try.prog 23 := ⟨by kernel_rfl⟩
instance : ArrI Try.prog 23 4 22 1 := ⟨by kernel_rfl, by kernel_rfl, by decide⟩
instance : TyI Try.prog 24 false 1 [(.slice none 0 0)] := ⟨by kernel_rfl, by kernel_rfl⟩
instance : NIfI Try.prog 24 := ⟨by kernel_rfl⟩
instance : SlI Try.prog 24 43 3 40 := ⟨Elem.mk' (z := (.agg #[(.int .i64 0), (.int .i64 0), (.slice none 0 0)])) (by kernel_rfl) (by kernel_rfl) (by rfl) (by decide)⟩
instance : TyI Try.prog 25 true 8 [(.slice none 0 0), (.slice none 0 0), (.slice none 0 0), (.slice none 0 0), (.int .i64 0), (.slice none 0 0), (.bool false), (.int .i64 0)] := ⟨by kernel_rfl, by kernel_rfl⟩
instance : NIfI Try.prog 25 := ⟨by kernel_rfl⟩
instance : PlI Try.prog 25 [(0, 4), (4, 1), (5, 1), (6, 1), (7, 1)] := ⟨by kernel_rfl⟩
instance : FldI Try.prog 25 0 0 4 true := ⟨by kernel_rfl, by decide⟩
instance : FldI Try.prog 25 1 4 1 false := ⟨by kernel_rfl, by decide⟩
instance : FldI Try.prog 25 2 5 1 false := ⟨by kernel_rfl, by decide⟩
instance : FldI Try.prog 25 3 6 1 false := ⟨by kernel_rfl, by decide⟩
instance : FldI Try.prog 25 4 7 1 false := ⟨by kernel_rfl, by decide⟩
instance : TyI Try.prog 26 true 8 [(.slice none 0 0), (.slice none 0 0), (.slice none 0 0), (.slice none 0 0), (.int .i64 0), (.slice none 0 0), (.bool false), (.int .i64 0)] := ⟨by kernel_rfl, by kernel_rfl⟩
instance : NIfI Try.prog 26 := ⟨by kernel_rfl⟩
instance : PlI Try.prog 26 [(0, 4), (4, 1), (5, 1), (6, 1), (7, 1)] := ⟨by kernel_rfl⟩
instance : FldI Try.prog 26 0 0 4 true := ⟨by kernel_rfl, by decide⟩
instance : FldI Try.prog 26 1 4 1 false := ⟨by kernel_rfl, by decide⟩
instance : FldI Try.prog 26 2 5 1 false := ⟨by kernel_rfl, by decide⟩
instance : FldI Try.prog 26 3 6 1 false := ⟨by kernel_rfl, by decide⟩
instance : FldI Try.prog 26 4 7 1 false := ⟨by kernel_rfl, by decide⟩
instance : TyI Try.prog 27 false 1 [(.slice none 0 0)] := ⟨by kernel_rfl, by kernel_rfl⟩
instance : NIfI Try.prog 27 := ⟨by kernel_rfl⟩
instance : SlI Try.prog 27 31 2 16 := ⟨Elem.mk' (z := (.agg #[(.int .i64 0), (.int .i64 0)])) (by kernel_rfl) (by kernel_rfl) (by rfl) (by decide)⟩
instance : TyI Try.prog 28 false 1 [.nilFunc] := ⟨by kernel_rfl, by kernel_rfl⟩
instance : NIfI Try.prog 28 := ⟨by kernel_rfl⟩
instance : TyI Try.prog 29 false 1 [.nilFunc] := ⟨by kernel_rfl, by kernel_rfl⟩
instance : NIfI Try.prog 29 := ⟨by kernel_rfl⟩
instance : TyI Try.prog 30 false 1 [.nilFunc] := ⟨by kernel_rfl, by kernel_rfl⟩
instance : NIfI Try.prog 30 := ⟨by kernel_rfl⟩
instance : TyI Try.prog 31 true 2 [(.int .i64 0), (.int .i64 0)] := ⟨by kernel_rfl, by kernel_rfl⟩
instance : NIfI Try.prog 31 := ⟨by kernel_rfl⟩
instance : ArrI Try.prog 31 2 3 1 := ⟨by kernel_rfl, by kernel_rfl, by decide⟩
instance : TyI Try.prog 32 false 1 [(.int .i64 0)] := ⟨by kernel_rfl, by kernel_rfl⟩
instance : NIfI Try.prog 32 := ⟨by kernel_rfl⟩
instance : IntI Try.prog 32 .i64 := ⟨by kernel_rfl⟩
instance : TyI Try.prog 34 false 1 [.nilFunc] := ⟨by kernel_rfl, by kernel_rfl⟩
instance : NIfI Try.prog 34 := ⟨by kernel_rfl⟩
instance : TyI Try.prog 35 false 1 [.nilFunc] := ⟨by kernel_rfl, by kernel_rfl⟩
instance : NIfI Try.prog 35 := ⟨by kernel_rfl⟩
instance : TyI Try.prog 36 false 1 [.nilFunc] := ⟨by kernel_rfl, by kernel_rfl⟩
instance : NIfI Try.prog 36 := ⟨by kernel_rfl⟩
instance : TyI Try.prog 37 false 1 [.nilFunc] := ⟨by kernel_rfl, by kernel_rfl⟩
instance : NIfI Try.prog 37 := ⟨by kernel_rfl⟩
instance : TyI Try.prog 38 false 1 [.nilFunc] := ⟨by kernel_rfl, by kernel_rfl⟩
instance : NIfI Try.prog 38 := ⟨by kernel_rfl⟩
instance : TyI Try.prog 39 false 1 [.nilFunc] := ⟨by kernel_rfl, by kernel_rfl⟩
instance : NIfI Try.prog 39 := ⟨by kernel_rfl⟩
instance : TyI Try.prog 40 false 1 [.nilFunc] := ⟨by kernel_rfl, by kernel_rfl⟩
instance : NIfI Try.prog 40 := ⟨by kernel_rfl⟩
instance : TyI Try.prog 41 false 1 [.nilFunc] := ⟨by kernel_rfl, by kernel_rfl⟩
instance : NIfI Try.prog 41 := ⟨by kernel_rfl⟩
instance : TyI Try.prog 42 true 3 [(.int .i64 0), (.int .i64 0), (.slice none 0 0)] := ⟨by kernel_rfl, by kernel_rfl⟩
instance : NIfI Try.prog 42 := ⟨by kernel_rfl⟩
instance : PlI Try.prog 42 [(0, 1), (1, 1), (2, 1)] := ⟨by kernel_rfl⟩
instance : FldI Try.prog 42 0 0 1 false := ⟨by kernel_rfl, by decide⟩
instance : FldI Try.prog 42 1 1 1 false := ⟨by kernel_rfl, by decide⟩
instance : FldI Try.prog 42 2 2 1 false := ⟨by kernel_rfl, by decide⟩
instance : TyI Try.prog 43 true 3 [(.int .i64 0), (.int .i64 0), (.slice none 0 0)] := ⟨by kernel_rfl, by kernel_rfl⟩
instance : NIfI Try.prog 43 := ⟨by kernel_rfl⟩
instance : PlI Try.prog 43 [(0, 1), (1, 1), (2, 1)] := ⟨by kernel_rfl⟩
instance : FldI Try.prog 43 0 0 1 false := ⟨by kernel_rfl, by decide⟩
instance : FldI Try.prog 43 1 1 1 false := ⟨by kernel_rfl, by decide⟩
instance : FldI Try.prog 43 2 2 1 false := ⟨by kernel_rfl, by decide⟩
instance : TyI Try.prog 44 false 1 [.nilFunc] := ⟨by kernel_rfl, by kernel_rfl⟩
instance : NIfI Try.prog 44 := ⟨by kernel_rfl⟩
instance : TyI Try.prog 46 false 1 [.nilFunc] := ⟨by kernel_rfl, by kernel_rfl⟩
instance : NIfI Try.prog 46 := ⟨by kernel_rfl⟩
instance : TyI Try.prog 47 false 1 [.nilFunc] := ⟨by kernel_rfl, by kernel_rfl⟩
instance : NIfI Try.prog 47 := ⟨by kernel_rfl⟩
instance : TyI Try.prog 48 true 4 [(.int .i64 0), (.int .i64 0), (.int .i64 0), (.int .i64 0)] := ⟨by kernel_rfl, by kernel_rfl⟩
instance : NIfI Try.prog 48 := ⟨by kernel_rfl⟩
instance : ArrI Try.prog 48 4 3 1 := ⟨by kernel_rfl, by kernel_rfl, by decide⟩
instance : TyI Try.prog 49 false 1 [.nilFunc] := ⟨by kernel_rfl, by kernel_rfl⟩
instance : NIfI Try.prog 49 := ⟨by kernel_rfl⟩
instance : TyI Try.prog 50 false 1 [.nilFunc] := ⟨by kernel_rfl, by kernel_rfl⟩
instance : NIfI Try.prog 50 := ⟨by kernel_rfl⟩
instance : TyI Try.prog 51 false 1 [.nilFunc] := ⟨by kernel_rfl, by kernel_rfl⟩
instance : NIfI Try.prog 51 := ⟨by kernel_rfl⟩
instance : TyI Try.prog 52 false 1 [.nilFunc] := ⟨by kernel_rfl, by kernel_rfl⟩
instance : NIfI Try.prog 52 := ⟨by kernel_rfl⟩
instance : TyI Try.prog 53 false 1 [.nilFunc] := ⟨by kernel_rfl, by kernel_rfl⟩
instance : NIfI Try.prog 53 := ⟨by kernel_rfl⟩
instance : TyI Try.prog 54 false 1 [.nilFunc] := ⟨by kernel_rfl, by kernel_rfl⟩
instance : NIfI Try.prog 54 := ⟨by kernel_rfl⟩
instance : TyI Try.prog 56 false 1 [.nilFunc] := ⟨by kernel_rfl, by kernel_rfl⟩
instance : NIfI Try.prog 56 := ⟨by kernel_rfl⟩
instance : TyI Try.prog 57 false 1 [.nilFunc] := ⟨by kernel_rfl, by kernel_rfl⟩
instance : NIfI Try.prog 57 := ⟨by kernel_rfl⟩
instance : TyI Try.prog 58 false 1 [.nilFunc] := ⟨by kernel_rfl, by kernel_rfl⟩
instance : NIfI Try.prog 58 := ⟨by kernel_rfl⟩
instance : TyI Try.prog 59 false 1 [.nilFunc] := ⟨by kernel_rfl, by kernel_rfl⟩
instance : NIfI Try.prog 59 := ⟨by kernel_rfl⟩
instance : TyI Try.prog 60 false 1 [.nilFunc] := ⟨by kernel_rfl, by kernel_rfl⟩
instance : NIfI Try.prog 60 := ⟨by kernel_rfl⟩
instance : TyI Try.prog 61 false 1 [(.slice none 0 0)] := ⟨by kernel_rfl, by kernel_rfl⟩
instance : NIfI Try.prog 61 := ⟨by kernel_rfl⟩
instance : SlI Try.prog 61 3 1 8 := ⟨Elem.mk' (z := (.int .i64 0)) (by kernel_rfl) (by kernel_rfl) (by rfl) (by decide)⟩
instance : TyI Try.prog 62 false 1 [.nilFunc] := ⟨by kernel_rfl, by kernel_rfl⟩
instance : NIfI Try.prog 62 := ⟨by kernel_rfl⟩
instance : TyI Try.prog 63 false 1 [.nilFunc] := ⟨by kernel_rfl, by kernel_rfl⟩
instance : NIfI Try.prog 63 := ⟨by kernel_rfl⟩
instance : TyI Try.prog 64 false 1 [.nilFunc] := ⟨by kernel_rfl, by kernel_rfl⟩
instance : NIfI Try.prog 64 := ⟨by kernel_rfl⟩
instance : TyI Try.prog 65 false 1 [(.int .u64 0)] := ⟨by kernel_rfl, by kernel_rfl⟩
instance : NIfI Try.prog 65 := ⟨by kernel_rfl⟩
instance : IntI Try.prog 65 .u64 := ⟨by kernel_rfl⟩
instance : TyI Try.prog 66 false 1 [.nilFunc] := ⟨by kernel_rfl, by kernel_rfl⟩
instance : NIfI Try.prog 66 := ⟨by kernel_rfl⟩
instance : TyI Try.prog 67 false 1 [.nilFunc] := ⟨by kernel_rfl, by kernel_rfl⟩
instance : NIfI Try.prog 67 := ⟨by kernel_rfl⟩
instance : TyI Try.prog 68 false 1 [.nilFunc] := ⟨by kernel_rfl, by kernel_rfl⟩
instance : NIfI Try.prog 68 := ⟨by kernel_rfl⟩
instance : TyI Try.prog 69 false 1 [.nilFunc] := ⟨by kernel_rfl, by kernel_rfl⟩
instance : NIfI Try.prog 69 := ⟨by kernel_rfl⟩
instance : TyI Try.prog 70 false 1 [.nilFunc] := ⟨by kernel_rfl, by kernel_rfl⟩
instance : NIfI Try.prog 70 := ⟨by kernel_rfl⟩
instance : TyI Try.prog 71 false 1 [(.pointer none)] := ⟨by kernel_rfl, by kernel_rfl⟩
instance : NIfI Try.prog 71 := ⟨by kernel_rfl⟩
instance : TyI Try.prog 72 false 1 [.nilFunc] := ⟨by kernel_rfl, by kernel_rfl⟩
instance : NIfI Try.prog 72 := ⟨by kernel_rfl⟩
instance : TyI Try.prog 73 true 8 [(.slice none 0 0), (.slice none 0 0), (.slice none 0 0), (.slice none 0 0), (.int .i64 0), (.slice none 0 0), (.bool false), (.int .i64 0)] := ⟨by kernel_rfl, by kernel_rfl⟩
instance : NIfI Try.prog 73 := ⟨by kernel_rfl⟩
instance : PlI Try.prog 73 [(0, 8)] := ⟨by kernel_rfl⟩
instance : FldI Try.prog 73 0 0 8 true := ⟨by kernel_rfl, by decide⟩
instance : TyI Try.prog 74 true 8 [(.slice none 0 0), (.slice none 0 0), (.slice none 0 0), (.slice none 0 0), (.int .i64 0), (.slice none 0 0), (.bool false), (.int .i64 0)] := ⟨by kernel_rfl, by kernel_rfl⟩
instance : NIfI Try.prog 74 := ⟨by kernel_rfl⟩
instance : PlI Try.prog 74 [(0, 8)] := ⟨by kernel_rfl⟩
instance : FldI Try.prog 74 0 0 8 true := ⟨by kernel_rfl, by decide⟩
instance : TyI Try.prog 75 false 1 [.nilFunc] := ⟨by kernel_rfl, by kernel_rfl⟩
instance : NIfI Try.prog 75 := ⟨by kernel_rfl⟩
instance : TyI Try.prog 76 false 1 [.nilFunc] := ⟨by kernel_rfl, by kernel_rfl⟩
instance : NIfI Try.prog 76 := ⟨by kernel_rfl⟩
instance : TyI Try.prog 77 false 1 [.nilFunc] := ⟨by kernel_rfl, by kernel_rfl⟩
instance : NIfI Try.prog 77 := ⟨by kernel_rfl⟩
instance : TyI Try.prog 78 false 1 [.nilFunc] := ⟨by kernel_rfl, by kernel_rfl⟩
instance : NIfI Try.prog 78 := ⟨by kernel_rfl⟩
instance : TyI Try.prog 79 false 1 [.nilFunc] := ⟨by kernel_rfl, by kernel_rfl⟩
instance : NIfI Try.prog 79 := ⟨by kernel_rfl⟩
instance : TyI Try.prog 80 false 1 [.nilFunc] := ⟨by kernel_rfl, by kernel_rfl⟩
instance : NIfI Try.prog 80 := ⟨by kernel_rfl⟩
instance : TyI Try.prog 81 true 4 [(.int .i64 0), (.int .i64 0), (.int .i64 0), (.int .i64 0)] := ⟨by kernel_rfl, by kernel_rfl⟩
instance : NIfI Try.prog 81 := ⟨by kernel_rfl⟩
instance : ArrI Try.prog 81 4 3 1 := ⟨by kernel_rfl, by kernel_rfl, by decide⟩
instance : TyI Try.prog 82 false 1 [.nilFunc] := ⟨by kernel_rfl, by kernel_rfl⟩
instance : NIfI Try.prog 82 := ⟨by kernel_rfl⟩
instance : TyI Try.prog 83 false 1 [.nilFunc] := ⟨by kernel_rfl, by kernel_rfl⟩
instance : NIfI Try.prog 83 := ⟨by kernel_rfl⟩
instance : TyI Try.prog 84 false 1 [.nilFunc] := ⟨by kernel_rfl, by kernel_rfl⟩
instance : NIfI Try.prog 84 := ⟨by kernel_rfl⟩
instance : TyI Try.prog 85 false 1 [.nilFunc] := ⟨by kernel_rfl, by kernel_rfl⟩
instance : NIfI Try.prog 85 := ⟨by kernel_rfl⟩
instance : TyI Try.prog 86 false 1 [.nilFunc] := ⟨by kernel_rfl, by kernel_rfl⟩
instance : NIfI Try.prog 86 := ⟨by kernel_rfl⟩
instance : TyI Try.prog 87 false 1 [(.slice none 0 0)] := ⟨by kernel_rfl, by kernel_rfl⟩
instance : NIfI Try.prog 87 := ⟨by kernel_rfl⟩
instance : SlI Try.prog 87 22 1 24 := ⟨Elem.mk' (z := (.slice none 0 0)) (by kernel_rfl) (by kernel_rfl) (by rfl) (by decide)⟩
instance : TyI Try.prog 89 false 1 [.nilFunc] := ⟨by kernel_rfl, by kernel_rfl⟩
instance : NIfI Try.prog 89 := ⟨by kernel_rfl⟩
instance : TyI Try.prog 90 false 1 [.nilFunc] := ⟨by kernel_rfl, by kernel_rfl⟩
instance : NIfI Try.prog 90 := ⟨by kernel_rfl⟩
instance : TyI Try.prog 91 false 1 [.nilFunc] := ⟨by kernel_rfl, by kernel_rfl⟩
instance : NIfI Try.prog 91 := ⟨by kernel_rfl⟩
instance : TyI Try.prog 92 true 4 [.nilFunc, .nilFunc, .nilFunc, .nilFunc] := ⟨by kernel_rfl, by kernel_rfl⟩
instance : NIfI Try.prog 92 := ⟨by kernel_rfl⟩
instance : ArrI Try.prog 92 4 91 1 := ⟨by kernel_rfl, by kernel_rfl, by decide⟩
instance : TyI Try.prog 93 false 1 [.nilFunc] := ⟨by kernel_rfl, by kernel_rfl⟩
instance : NIfI Try.prog 93 := ⟨by kernel_rfl⟩
instance : TyI Try.prog 94 false 1 [.nilFunc] := ⟨by kernel_rfl, by kernel_rfl⟩
instance : NIfI Try.prog 94 := ⟨by kernel_rfl⟩
instance : TyI Try.prog 95 false 1 [.nilFunc] := ⟨by kernel_rfl, by kernel_rfl⟩
instance : NIfI Try.prog 95 := ⟨by kernel_rfl⟩
instance : TyI Try.prog 96 true 4 [(.pointer none), (.pointer none), (.pointer none), (.string ⟨#[]⟩)] := ⟨by kernel_rfl, by kernel_rfl⟩
instance : NIfI Try.prog 96 := ⟨by kernel_rfl⟩
instance : PlI Try.prog 96 [(0, 1), (1, 1), (2, 1), (3, 1)] := ⟨by kernel_rfl⟩
instance : FldI Try.prog 96 0 0 1 false := ⟨by kernel_rfl, by decide⟩
instance : FldI Try.prog 96 1 1 1 false := ⟨by kernel_rfl, by decide⟩
instance : FldI Try.prog 96 2 2 1 false := ⟨by kernel_rfl, by decide⟩
instance : FldI Try.prog 96 3 3 1 false := ⟨by kernel_rfl, by decide⟩
instance : TyI Try.prog 97 true 4 [(.pointer none), (.pointer none), (.pointer none), (.string ⟨#[]⟩)] := ⟨by kernel_rfl, by kernel_rfl⟩
instance : NIfI Try.prog 97 := ⟨by kernel_rfl⟩
instance : PlI Try.prog 97 [(0, 1), (1, 1), (2, 1), (3, 1)] := ⟨by kernel_rfl⟩
instance : FldI Try.prog 97 0 0 1 false := ⟨by kernel_rfl, by decide⟩
instance : FldI Try.prog 97 1 1 1 false := ⟨by kernel_rfl, by decide⟩
instance : FldI Try.prog 97 2 2 1 false := ⟨by kernel_rfl, by decide⟩
instance : FldI Try.prog 97 3 3 1 false := ⟨by kernel_rfl, by decide⟩
instance : TyI Try.prog 98 true 0 [] := ⟨by kernel_rfl, by kernel_rfl⟩
instance : NIfI Try.prog 98 := ⟨by kernel_rfl⟩
instance : ArrI Try.prog 98 0 16 1 := ⟨by kernel_rfl, by kernel_rfl, by decide⟩
instance : TyI Try.prog 99 true 0 [] := ⟨by kernel_rfl, by kernel_rfl⟩
instance : NIfI Try.prog 99 := ⟨by kernel_rfl⟩
instance : PlI Try.prog 99 [(0, 0)] := ⟨by kernel_rfl⟩
instance : TyI Try.prog 100 true 0 [] := ⟨by kernel_rfl, by kernel_rfl⟩
instance : NIfI Try.prog 100 := ⟨by kernel_rfl⟩
instance : PlI Try.prog 100 [(0, 0)] := ⟨by kernel_rfl⟩
instance : TyI Try.prog 101 false 1 [.nilFunc] := ⟨by kernel_rfl, by kernel_rfl⟩
instance : NIfI Try.prog 101 := ⟨by kernel_rfl⟩
instance : TyI Try.prog 102 false 1 [(.int .u32 0)] := ⟨by kernel_rfl, by kernel_rfl⟩
instance : NIfI Try.prog 102 := ⟨by kernel_rfl⟩
instance : IntI Try.prog 102 .u32 := ⟨by kernel_rfl⟩
instance : TyI Try.prog 103 false 1 [(.int .u8 0)] := ⟨by kernel_rfl, by kernel_rfl⟩
instance : NIfI Try.prog 103 := ⟨by kernel_rfl⟩
instance : IntI Try.prog 103 .u8 := ⟨by kernel_rfl⟩
instance : TyI Try.prog 104 false 1 [(.int .u8 0)] := ⟨by kernel_rfl, by kernel_rfl⟩
instance : NIfI Try.prog 104 := ⟨by kernel_rfl⟩
instance : IntI Try.prog 104 .u8 := ⟨by kernel_rfl⟩
instance : TyI Try.prog 105 false 1 [.nilFunc] := ⟨by kernel_rfl, by kernel_rfl⟩
instance : NIfI Try.prog 105 := ⟨by kernel_rfl⟩
instance : TyI Try.prog 106 false 1 [(.pointer none)] := ⟨by kernel_rfl, by kernel_rfl⟩
instance : NIfI Try.prog 106 := ⟨by kernel_rfl⟩
instance : TyI Try.prog 107 false 1 [(.int .i32 0)] := ⟨by kernel_rfl, by kernel_rfl⟩
instance : NIfI Try.prog 107 := ⟨by kernel_rfl⟩
instance : IntI Try.prog 107 .i32 := ⟨by kernel_rfl⟩
instance : TyI Try.prog 108 false 1 [(.int .i32 0)] := ⟨by kernel_rfl, by kernel_rfl⟩
instance : NIfI Try.prog 108 := ⟨by kernel_rfl⟩
instance : IntI Try.prog 108 .i32 := ⟨by kernel_rfl⟩
instance : TyI Try.prog 109 true 11 [(.int .u64 0), (.int .u64 0), (.int .u32 0), (.int .u8 0), (.int .u8 0), (.int .u8 0), (.int .u8 0), .nilFunc, (.pointer none), (.int .i32 0), (.int .i32 0)] := ⟨by kernel_rfl, by kernel_rfl⟩
instance : NIfI Try.prog 109 := ⟨by kernel_rfl⟩
instance : PlI Try.prog 109 [(0, 1), (1, 1), (2, 1), (3, 1), (4, 1), (5, 1), (6, 1), (7, 1), (8, 1), (9, 1), (10, 1)] := ⟨by kernel_rfl⟩
instance : FldI Try.prog 109 0 0 1 false := ⟨by kernel_rfl, by decide⟩
instance : FldI Try.prog 109 1 1 1 false := ⟨by kernel_rfl, by decide⟩
instance : FldI Try.prog 109 2 2 1 false := ⟨by kernel_rfl, by decide⟩
instance : FldI Try.prog 109 3 3 1 false := ⟨by kernel_rfl, by decide⟩
instance : FldI Try.prog 109 4 4 1 false := ⟨by kernel_rfl, by decide⟩
instance : FldI Try.prog 109 5 5 1 false := ⟨by kernel_rfl, by decide⟩
instance : FldI Try.prog 109 6 6 1 false := ⟨by kernel_rfl, by decide⟩
instance : FldI Try.prog 109 7 7 1 false := ⟨by kernel_rfl, by decide⟩
instance : FldI Try.prog 109 8 8 1 false := ⟨by kernel_rfl, by decide⟩
instance : FldI Try.prog 109 9 9 1 false := ⟨by kernel_rfl, by decide⟩
instance : FldI Try.prog 109 10 10 1 false := ⟨by kernel_rfl, by decide⟩
instance : TyI Try.prog 110 true 11 [(.int .u64 0), (.int .u64 0), (.int .u32 0), (.int .u8 0), (.int .u8 0), (.int .u8 0), (.int .u8 0), .nilFunc, (.pointer none), (.int .i32 0), (.int .i32 0)] := ⟨by kernel_rfl, by kernel_rfl⟩
instance : NIfI Try.prog 110 := ⟨by kernel_rfl⟩
instance : PlI Try.prog 110 [(0, 1), (1, 1), (2, 1), (3, 1), (4, 1), (5, 1), (6, 1), (7, 1), (8, 1), (9, 1), (10, 1)] := ⟨by kernel_rfl⟩
instance : FldI Try.prog 110 0 0 1 false := ⟨by kernel_rfl, by decide⟩
instance : FldI Try.prog 110 1 1 1 false := ⟨by kernel_rfl, by decide⟩
instance : FldI Try.prog 110 2 2 1 false := ⟨by kernel_rfl, by decide⟩
instance : FldI Try.prog 110 3 3 1 false := ⟨by kernel_rfl, by decide⟩
instance : FldI Try.prog 110 4 4 1 false := ⟨by kernel_rfl, by decide⟩
instance : FldI Try.prog 110 5 5 1 false := ⟨by kernel_rfl, by decide⟩
instance : FldI Try.prog 110 6 6 1 false := ⟨by kernel_rfl, by decide⟩
instance : FldI Try.prog 110 7 7 1 false := ⟨by kernel_rfl, by decide⟩
instance : FldI Try.prog 110 8 8 1 false := ⟨by kernel_rfl, by decide⟩
instance : FldI Try.prog 110 9 9 1 false := ⟨by kernel_rfl, by decide⟩
instance : FldI Try.prog 110 10 10 1 false := ⟨by kernel_rfl, by decide⟩
instance : TyI Try.prog 111 false 1 [(.pointer none)] := ⟨by kernel_rfl, by kernel_rfl⟩
instance : NIfI Try.prog 111 := ⟨by kernel_rfl⟩

end Go.Proofs.Ytjfaihpiohccbaa

namespace Go.Proofs.Ytjfaihpiohccbaa
open Go.RowKit
def isFile (n : Int) : Bool := decide (0 ≤ n) && decide (n < 4)
set_option maxRecDepth 10000
theorem file_v (n : Int) : VP Try.prog 52 [.lit (.int .i64 n)] (· = .ret (.lit (.bool (isFile n)))) := by
  refine vp_of Try.func52 rfl Try.ntmps52 rfl Try.results52 fun B => ?_
  repeat' (first | with_reducible refine vw_seq ?_ | ((with_reducible refine vl_id ?_); first | fail | refine vs_x ?_ | fail | refine vs_p ?_ | refine vs_bs0 ?_ | refine vs_eqnil (fun _ _ => ?_) | refine vs_nenil (fun _ _ => ?_) | ((fail_if_success (refine vs_lit ?_)); first | (refine vs_case ?_ ?_ <;> intro _ <;> (try (exfalso; omega))) | (refine vs_caseb ?_ ?_ <;> intro _))) | ((with_reducible refine vd_id ?_); first | with_reducible refine vd_done ?_ | fail | refine vd_q ?_ | refine vd_rp ?_ | refine vd_rp ?_ (h := r_bs0) | refine vd_r ?_ (h := r_bs0) | refine vd_rs ?_ | refine vd_r ?_ | refine vd_appp ?_ | refine vd_appzp ?_ | refine vd_app ?_ | refine vd_appz ?_ | refine vd_store ?_ | refine vd_storez ?_ | refine vd_skip ?_ | fail | ((fail_if_success (refine vd_lit ?_)); (refine vd_case ?_ ?_ <;> intro hg <;> (first | (exfalso; (try simp only [decide_eq_true_eq, decide_eq_false_iff_not] at hg); omega) | rw [hg])))) | ((with_reducible refine vw_drid ?_); first | fail | refine vw_drawx ?_) | ((with_reducible refine vw_cid ?_); first | refine vw_condt ?_ | refine vw_condf ?_ | (refine vw_cp ?_ ?_ <;> intro _ <;> (try (exfalso; omega))) | (refine vw_cb ?_ ?_ <;> intro _)) | ((with_reducible refine rt_id ?_); first | refine rt_o ?_ | refine rt_a ?_) | ((with_reducible refine rt_idp ?_); refine rt_pan rfl ?_) | ((with_reducible refine rc_id ?_); refine rc_ret ?_) | ((with_reducible refine nx_tryid ?_); refine nx_try ?_) | ((with_reducible refine nx_resid ?_); refine nx_res ?_) | with_reducible (refine NX.go ?_; constructor) | with_reducible refine nx_blkx rfl ?_ | with_reducible refine nx_blky rfl ?_ | ((with_reducible refine nx_mkid ?_); refine nx_mk ?_) | ((with_reducible refine nx_asgid ?_); refine nx_asg ?_) | ((with_reducible refine nx_rndid ?_); first | refine nx_rnd (by assumption) ?_ | refine nx_rnde ?_ | refine nx_rndr ?_) | ((with_reducible refine nx_rngid ?_); first | refine nx_rng (by assumption) ?_ | refine nx_rngj ?_ | refine nx_rngp ?_) | fail)
  all_goals simp [isFile, *]
def mayOp (k f : Int) (n : Nat) : Bool := decide (1 ≤ k) && decide (k < 4) && isFile f && decide (decide (k = 1) = decide (0 < n))
theorem may_v (k f : Int) (b : List (List D)) [DLss b b] : VP Try.prog 56 [.agg [.lit (.int .i64 k), .lit (.int .i64 f), .sl false false b]] (· = .ret (.lit (.bool (mayOp k f b.length)))) := by
  refine vp_of Try.func56 rfl Try.ntmps56 rfl Try.results56 fun B => ?_
  repeat' (first | with_reducible refine vw_seq ?_ | ((with_reducible refine vl_id ?_); first | fail | refine vs_x ?_ | refine vs_ret (file_v _) ?_ | refine vs_p ?_ | refine vs_bs0 ?_ | refine vs_eqnil (fun _ _ => ?_) | refine vs_nenil (fun _ _ => ?_) | ((fail_if_success (refine vs_lit ?_)); first | (refine vs_case ?_ ?_ <;> intro _ <;> (try (exfalso; omega))) | (refine vs_caseb ?_ ?_ <;> intro _))) | ((with_reducible refine vd_id ?_); first | with_reducible refine vd_done ?_ | fail | refine vd_q ?_ | refine vd_rp ?_ | refine vd_rp ?_ (h := r_bs0) | refine vd_r ?_ (h := r_bs0) | refine vd_rs ?_ | refine vd_r ?_ | refine vd_appp ?_ | refine vd_appzp ?_ | refine vd_app ?_ | refine vd_appz ?_ | refine vd_store ?_ | refine vd_storez ?_ | refine vd_skip ?_ | refine vs_ret (file_v _) ?_ | ((fail_if_success (refine vd_lit ?_)); (refine vd_case ?_ ?_ <;> intro hg <;> (first | (exfalso; (try simp only [decide_eq_true_eq, decide_eq_false_iff_not] at hg); omega) | rw [hg])))) | ((with_reducible refine vw_drid ?_); first | fail | refine vw_drawx ?_) | ((with_reducible refine vw_cid ?_); first | refine vw_condt ?_ | refine vw_condf ?_ | (refine vw_cp ?_ ?_ <;> intro _ <;> (try (exfalso; omega))) | (refine vw_cb ?_ ?_ <;> intro _)) | ((with_reducible refine rt_id ?_); first | refine rt_o ?_ | refine rt_a ?_) | ((with_reducible refine rt_idp ?_); refine rt_pan rfl ?_) | ((with_reducible refine rc_id ?_); refine rc_ret ?_) | ((with_reducible refine nx_tryid ?_); refine nx_try ?_) | ((with_reducible refine nx_resid ?_); refine nx_res ?_) | with_reducible (refine NX.go ?_; constructor) | with_reducible refine nx_blkx rfl ?_ | with_reducible refine nx_blky rfl ?_ | ((with_reducible refine nx_mkid ?_); refine nx_mk ?_) | ((with_reducible refine nx_asgid ?_); refine nx_asg ?_) | ((with_reducible refine nx_rndid ?_); first | refine nx_rnd (by assumption) ?_ | refine nx_rnde ?_ | refine nx_rndr ?_) | ((with_reducible refine nx_rngid ?_); first | refine nx_rng (by assumption) ?_ | refine nx_rngj ?_ | refine nx_rngp ?_) | fail)
  all_goals simp [mayOp, *]
theorem need_ok (e : Int) : VP Try.prog 42 [.lit (.bool true), .lit (.int .i64 e)] (· = .ret (.tup [])) := by
  refine vp_of Try.func42 rfl Try.ntmps42 rfl Try.results42 fun B => ?_
  repeat' (first | with_reducible refine vw_seq ?_ | ((with_reducible refine vl_id ?_); first | fail | refine vs_x ?_ | fail | refine vs_p ?_ | refine vs_bs0 ?_ | refine vs_eqnil (fun _ _ => ?_) | refine vs_nenil (fun _ _ => ?_) | ((fail_if_success (refine vs_lit ?_)); first | (refine vs_case ?_ ?_ <;> intro _ <;> (try (exfalso; omega))) | (refine vs_caseb ?_ ?_ <;> intro _))) | ((with_reducible refine vd_id ?_); first | with_reducible refine vd_done ?_ | fail | refine vd_q ?_ | refine vd_rp ?_ | refine vd_rp ?_ (h := r_bs0) | refine vd_r ?_ (h := r_bs0) | refine vd_rs ?_ | refine vd_r ?_ | refine vd_appp ?_ | refine vd_appzp ?_ | refine vd_app ?_ | refine vd_appz ?_ | refine vd_store ?_ | refine vd_storez ?_ | refine vd_skip ?_ | fail | ((fail_if_success (refine vd_lit ?_)); (refine vd_case ?_ ?_ <;> intro hg <;> (first | (exfalso; (try simp only [decide_eq_true_eq, decide_eq_false_iff_not] at hg); omega) | rw [hg])))) | ((with_reducible refine vw_drid ?_); first | fail | refine vw_drawx ?_) | ((with_reducible refine vw_cid ?_); first | refine vw_condt ?_ | refine vw_condf ?_ | (refine vw_cp ?_ ?_ <;> intro _ <;> (try (exfalso; omega))) | (refine vw_cb ?_ ?_ <;> intro _)) | ((with_reducible refine rt_id ?_); first | refine rt_o ?_ | refine rt_a ?_) | ((with_reducible refine rt_idp ?_); refine rt_pan rfl ?_) | ((with_reducible refine rc_id ?_); refine rc_ret ?_) | ((with_reducible refine nx_tryid ?_); refine nx_try ?_) | ((with_reducible refine nx_resid ?_); refine nx_res ?_) | with_reducible (refine NX.go ?_; constructor) | with_reducible refine nx_blkx rfl ?_ | with_reducible refine nx_blky rfl ?_ | ((with_reducible refine nx_mkid ?_); refine nx_mk ?_) | ((with_reducible refine nx_asgid ?_); refine nx_asg ?_) | ((with_reducible refine nx_rndid ?_); first | refine nx_rnd (by assumption) ?_ | refine nx_rnde ?_ | refine nx_rndr ?_) | ((with_reducible refine nx_rngid ?_); first | refine nx_rng (by assumption) ?_ | refine nx_rngj ?_ | refine nx_rngp ?_) | fail)
  all_goals rfl
theorem need_no (e : Int) : VP Try.prog 42 [.lit (.bool false), .lit (.int .i64 e)] (· = .panic (.ifc 32 (.lit (.int .i64 e)))) := by
  refine vp_of Try.func42 rfl Try.ntmps42 rfl Try.results42 fun B => ?_
  repeat' (first | with_reducible refine vw_seq ?_ | ((with_reducible refine vl_id ?_); first | fail | refine vs_x ?_ | fail | refine vs_p ?_ | refine vs_bs0 ?_ | refine vs_eqnil (fun _ _ => ?_) | refine vs_nenil (fun _ _ => ?_) | ((fail_if_success (refine vs_lit ?_)); first | (refine vs_case ?_ ?_ <;> intro _ <;> (try (exfalso; omega))) | (refine vs_caseb ?_ ?_ <;> intro _))) | ((with_reducible refine vd_id ?_); first | with_reducible refine vd_done ?_ | fail | refine vd_q ?_ | refine vd_rp ?_ | refine vd_rp ?_ (h := r_bs0) | refine vd_r ?_ (h := r_bs0) | refine vd_rs ?_ | refine vd_r ?_ | refine vd_appp ?_ | refine vd_appzp ?_ | refine vd_app ?_ | refine vd_appz ?_ | refine vd_store ?_ | refine vd_storez ?_ | refine vd_skip ?_ | fail | ((fail_if_success (refine vd_lit ?_)); (refine vd_case ?_ ?_ <;> intro hg <;> (first | (exfalso; (try simp only [decide_eq_true_eq, decide_eq_false_iff_not] at hg); omega) | rw [hg])))) | ((with_reducible refine vw_drid ?_); first | fail | refine vw_drawx ?_) | ((with_reducible refine vw_cid ?_); first | refine vw_condt ?_ | refine vw_condf ?_ | (refine vw_cp ?_ ?_ <;> intro _ <;> (try (exfalso; omega))) | (refine vw_cb ?_ ?_ <;> intro _)) | ((with_reducible refine rt_id ?_); first | refine rt_o ?_ | refine rt_a ?_) | ((with_reducible refine rt_idp ?_); refine rt_pan rfl ?_) | ((with_reducible refine rc_id ?_); refine rc_ret ?_) | ((with_reducible refine nx_tryid ?_); refine nx_try ?_) | ((with_reducible refine nx_resid ?_); refine nx_res ?_) | with_reducible (refine NX.go ?_; constructor) | with_reducible refine nx_blkx rfl ?_ | with_reducible refine nx_blky rfl ?_ | ((with_reducible refine nx_mkid ?_); refine nx_mk ?_) | ((with_reducible refine nx_asgid ?_); refine nx_asg ?_) | ((with_reducible refine nx_rndid ?_); first | refine nx_rnd (by assumption) ?_ | refine nx_rnde ?_ | refine nx_rndr ?_) | ((with_reducible refine nx_rngid ?_); first | refine nx_rng (by assumption) ?_ | refine nx_rngj ?_ | refine nx_rngp ?_) | fail)
  all_goals rfl
abbrev byD (b : List UInt8) : List (List D) := b.map fun x => [.lit (vb x)]
theorem own_v (b : List UInt8) (hb : b.length ≤ 140737488355328) : VP Try.prog 68 [.sl false false (byD b)] (· = .own 5 1 (byD b)) := by
  refine vp_of Try.func68 rfl Try.ntmps68 rfl Try.results68 fun B => ?_
  have hb' : ((byD b).length : Int) ≤ 140737488355328 := by simp; omega
  repeat' (first | with_reducible refine vw_seq ?_ | ((with_reducible refine vl_id ?_); first | fail | refine vs_x ?_ | fail | refine vs_p ?_ | refine vs_bs0 ?_ | refine vs_eqnil (fun _ _ => ?_) | refine vs_nenil (fun _ _ => ?_) | ((fail_if_success (refine vs_lit ?_)); first | (refine vs_case ?_ ?_ <;> intro _ <;> (try (exfalso; omega))) | (refine vs_caseb ?_ ?_ <;> intro _))) | ((with_reducible refine vd_id ?_); first | with_reducible refine vd_done ?_ | fail | refine vd_q ?_ | refine vd_rp ?_ | refine vd_rp ?_ (h := r_bs0) | refine vd_r ?_ (h := r_bs0) | refine vd_rs ?_ | refine vd_r ?_ | refine vd_appp ?_ | refine vd_appzp ?_ | refine vd_app ?_ | refine vd_appz ?_ | refine vd_store ?_ | refine vd_storez ?_ | refine vd_skip ?_ | fail | ((fail_if_success (refine vd_lit ?_)); (refine vd_case ?_ ?_ <;> intro hg <;> (first | (exfalso; (try simp only [decide_eq_true_eq, decide_eq_false_iff_not] at hg); omega) | rw [hg])))) | ((with_reducible refine vw_drid ?_); first | fail | refine vw_drawx ?_) | ((with_reducible refine vw_cid ?_); first | refine vw_condt ?_ | refine vw_condf ?_ | (refine vw_cp ?_ ?_ <;> intro _ <;> (try (exfalso; omega))) | (refine vw_cb ?_ ?_ <;> intro _)) | ((with_reducible refine rt_id ?_); first | refine rt_o ?_ | refine rt_a ?_) | ((with_reducible refine rt_idp ?_); refine rt_pan rfl ?_) | ((with_reducible refine rc_id ?_); refine rc_ret ?_) | ((with_reducible refine nx_tryid ?_); refine nx_try ?_) | ((with_reducible refine nx_resid ?_); refine nx_res ?_) | with_reducible (refine NX.go ?_; constructor) | with_reducible refine nx_blkx rfl ?_ | with_reducible refine nx_blky rfl ?_ | ((with_reducible refine nx_mkid ?_); refine nx_mk ?_) | ((with_reducible refine nx_asgid ?_); refine nx_asg ?_) | ((with_reducible refine nx_rndid ?_); first | refine nx_rnd (by assumption) ?_ | refine nx_rnde ?_ | refine nx_rndr ?_) | ((with_reducible refine nx_rngid ?_); first | refine nx_rng (by assumption) ?_ | refine nx_rngj ?_ | refine nx_rngp ?_) | fail)
  all_goals rfl
end Go.Proofs.Ytjfaihpiohccbaa

namespace Go.Proofs.Ytjfaihpiohccbaa
open Go.RowKit
set_option maxRecDepth 10000
/-- the first of them, or -1 -/
def idxF (p : Nat → Bool) : Nat → Nat → Int
  | _, 0 => -1
  | i, n + 1 => if p i then i else idxF p (i + 1) n
theorem index_v {f : FuncId} {ca : List D} (l : List (List D)) (hz : ∀ x ∈ l, x.length = 3) (p : Nat → Bool) (hcall : ∀ i x, l[i]? = some x → VP Try.prog f (.agg x :: ca) (· = .ret (.lit (.bool (p i))))) (hd : ∀ x ∈ l, DLs x x) [DLs ca ca] :
    VP Try.prog 77 [.sl false false l, .fn f [] ca] (· = .ret (.lit (.int .i64 (idxF p 0 l.length)))) := by
  refine vp_of Try.func77 rfl Try.ntmps77 rfl Try.results77 fun B => ?_
  repeat' (first | with_reducible refine vw_seq ?_ | ((with_reducible refine vl_id ?_); first | fail | refine vs_x ?_ | fail | refine vs_p ?_ | refine vs_bs0 ?_ | refine vs_eqnil (fun _ _ => ?_) | refine vs_nenil (fun _ _ => ?_) | ((fail_if_success (refine vs_lit ?_)); first | (refine vs_case ?_ ?_ <;> intro _ <;> (try (exfalso; omega))) | (refine vs_caseb ?_ ?_ <;> intro _))) | ((with_reducible refine vd_id ?_); first | with_reducible refine vd_done ?_ | fail | refine vd_q ?_ | refine vd_rp ?_ | refine vd_rp ?_ (h := r_bs0) | refine vd_r ?_ (h := r_bs0) | refine vd_rs ?_ | refine vd_r ?_ | refine vd_appp ?_ | refine vd_appzp ?_ | refine vd_app ?_ | refine vd_appz ?_ | refine vd_store ?_ | refine vd_storez ?_ | refine vd_skip ?_ | fail | ((fail_if_success (refine vd_lit ?_)); (refine vd_case ?_ ?_ <;> intro hg <;> (first | (exfalso; (try simp only [decide_eq_true_eq, decide_eq_false_iff_not] at hg); omega) | rw [hg])))) | ((with_reducible refine vw_drid ?_); first | fail | refine vw_drawx ?_) | ((with_reducible refine vw_cid ?_); first | refine vw_condt ?_ | refine vw_condf ?_ | (refine vw_cp ?_ ?_ <;> intro _ <;> (try (exfalso; omega))) | (refine vw_cb ?_ ?_ <;> intro _)) | ((with_reducible refine rt_id ?_); first | refine rt_o ?_ | refine rt_a ?_) | ((with_reducible refine rt_idp ?_); refine rt_pan rfl ?_) | ((with_reducible refine rc_id ?_); refine rc_ret ?_) | ((with_reducible refine nx_tryid ?_); refine nx_try ?_) | ((with_reducible refine nx_resid ?_); refine nx_res ?_) | with_reducible (refine NX.go ?_; constructor) | with_reducible refine nx_blkx rfl ?_ | with_reducible refine nx_blky rfl ?_ | ((with_reducible refine nx_mkid ?_); refine nx_mk ?_) | ((with_reducible refine nx_asgid ?_); refine nx_asg ?_) | ((with_reducible refine nx_rndid ?_); first | refine nx_rnd (by assumption) ?_ | refine nx_rnde ?_ | refine nx_rndr ?_) | ((with_reducible refine nx_rngid ?_); first | refine nx_rng (by assumption) ?_ | refine nx_rngj ?_ | refine nx_rngp ?_) | fail)
  refine vw_len 0 rfl fun hlen => ?_
  refine vw_loop (fun i : Nat => ⟨[(8, .d (.lit (.int .i64 i))), (7, .d (.lit (.int .i64 l.length))), (1, .d (.fn f [] ca)), (0, .d (.sl false false l))], [], 0⟩) (fun i => i ≤ l.length ∧ idxF p 0 l.length = idxF p i (l.length - i)) (fun i => l.length - i) 0 (sub_ren [] (by repeat' (first | exact trivial | exact rle_nil | refine rle_cons ?_ ?_ | exact rle_any | exact rle_dd | exact rle_ptr rfl | exact rle_row rfl rfl | exact rle_rowk rfl rfl | refine rle_agg ?_ | refine rle_tup ?_ | refine rle_ifc ?_ | refine rle_fn ?_ ?_ | exact rle_ep | exact rle_sv rfl | exact rle_yl rfl | refine ⟨⟨rfl, _, rfl, ?_⟩, ?_⟩ | exact rle_d rfl (by infer_instance) | refine ⟨⟨_, rfl, ?_⟩, ?_⟩ | refine ⟨⟨rfl, .inl ⟨rfl, _, _, rfl, rfl⟩⟩, ?_⟩ | refine ⟨⟨rfl, .inr ⟨rfl, rfl, rfl⟩⟩, ?_⟩ | refine ⟨⟨rfl, _, rfl, ?_⟩, ?_⟩ | refine ⟨?_, ?_⟩)) (by repeat' (first | exact trivial | exact rle_nil | refine rle_cons ?_ ?_ | exact rle_any | exact rle_dd | exact rle_ptr rfl | exact rle_row rfl rfl | exact rle_rowk rfl rfl | refine rle_agg ?_ | refine rle_tup ?_ | refine rle_ifc ?_ | refine rle_fn ?_ ?_ | exact rle_ep | exact rle_sv rfl | exact rle_yl rfl | refine ⟨⟨rfl, _, rfl, ?_⟩, ?_⟩ | exact rle_d rfl (by infer_instance) | refine ⟨⟨_, rfl, ?_⟩, ?_⟩ | refine ⟨⟨rfl, .inl ⟨rfl, _, _, rfl, rfl⟩⟩, ?_⟩ | refine ⟨⟨rfl, .inr ⟨rfl, rfl, rfl⟩⟩, ?_⟩ | refine ⟨⟨rfl, _, rfl, ?_⟩, ?_⟩ | refine ⟨?_, ?_⟩)) (by repeat' (first | exact trivial | exact rle_nil | refine rle_cons ?_ ?_ | exact rle_any | exact rle_dd | exact rle_ptr rfl | exact rle_row rfl rfl | exact rle_rowk rfl rfl | refine rle_agg ?_ | refine rle_tup ?_ | refine rle_ifc ?_ | refine rle_fn ?_ ?_ | exact rle_ep | exact rle_sv rfl | exact rle_yl rfl | refine ⟨⟨rfl, _, rfl, ?_⟩, ?_⟩ | exact rle_d rfl (by infer_instance) | refine ⟨⟨_, rfl, ?_⟩, ?_⟩ | refine ⟨⟨rfl, .inl ⟨rfl, _, _, rfl, rfl⟩⟩, ?_⟩ | refine ⟨⟨rfl, .inr ⟨rfl, rfl, rfl⟩⟩, ?_⟩ | refine ⟨⟨rfl, _, rfl, ?_⟩, ?_⟩ | refine ⟨?_, ?_⟩)) rfl rfl) ⟨Nat.zero_le _, rfl⟩ fun i hi => ?_
  rcases Nat.lt_or_ge i l.length with h | h
  · obtain ⟨x, hx⟩ : ∃ x, l[i]? = some x := ⟨_, List.getElem?_eq_getElem h⟩
    have hx' : l[((i : Nat) : Int).toNat]? = some x := by simpa using hx
    have hx3 : x.length = 3 := hz x (List.mem_of_getElem? hx)
    haveI := hd x (List.mem_of_getElem? hx)
    have hst : idxF p i (l.length - i) = if p i then (i : Int) else idxF p (i + 1) (l.length - (i + 1)) := by rw [show l.length - i = (l.length - (i + 1)) + 1 by omega]; rfl
    repeat' (first | with_reducible refine vw_seq ?_ | ((with_reducible refine vl_id ?_); first | fail | refine vs_x ?_ | ((with_reducible refine vl_id ?_); refine vq_l (hcall i x hx) ?_; first | refine vs_call (hcall i x hx) ?_ | refine vs_pan (hcall i x hx) ?_ | refine vs_lentp (hcall i x hx) ?_) | ((with_reducible refine vd_id ?_); refine vq_d (hcall i x hx) ?_; first | refine vd_ret (hcall i x hx) ?_ | refine vd_ownp (hcall i x hx) ?_ | refine vd_own (hcall i x hx) ?_ | refine vd_lent (hcall i x hx) ?_) | refine vs_p ?_ | refine vs_bs0 ?_ | refine vs_eqnil (fun _ _ => ?_) | refine vs_nenil (fun _ _ => ?_) | ((fail_if_success (refine vs_lit ?_)); first | (refine vs_case ?_ ?_ <;> intro _ <;> (try (exfalso; omega))) | (refine vs_caseb ?_ ?_ <;> intro _))) | ((with_reducible refine vd_id ?_); first | with_reducible refine vd_done ?_ | fail | refine vd_q ?_ | refine vd_rp ?_ | refine vd_rp ?_ (h := r_bs0) | refine vd_r ?_ (h := r_bs0) | refine vd_rs ?_ | refine vd_r ?_ | refine vd_appp ?_ | refine vd_appzp ?_ | refine vd_app ?_ | refine vd_appz ?_ | refine vd_store ?_ | refine vd_storez ?_ | refine vd_skip ?_ | ((with_reducible refine vl_id ?_); refine vq_l (hcall i x hx) ?_; first | refine vs_call (hcall i x hx) ?_ | refine vs_pan (hcall i x hx) ?_ | refine vs_lentp (hcall i x hx) ?_) | ((with_reducible refine vd_id ?_); refine vq_d (hcall i x hx) ?_; first | refine vd_ret (hcall i x hx) ?_ | refine vd_ownp (hcall i x hx) ?_ | refine vd_own (hcall i x hx) ?_ | refine vd_lent (hcall i x hx) ?_) | ((fail_if_success (refine vd_lit ?_)); (refine vd_case ?_ ?_ <;> intro hg <;> (first | (exfalso; (try simp only [decide_eq_true_eq, decide_eq_false_iff_not] at hg); omega) | rw [hg])))) | ((with_reducible refine vw_drid ?_); first | fail | refine vw_drawx ?_) | ((with_reducible refine vw_cid ?_); first | refine vw_condt ?_ | refine vw_condf ?_ | (refine vw_cp ?_ ?_ <;> intro _ <;> (try (exfalso; omega))) | (refine vw_cb ?_ ?_ <;> intro _)) | ((with_reducible refine rt_id ?_); first | refine rt_o ?_ | refine rt_a ?_) | ((with_reducible refine rt_idp ?_); refine rt_pan rfl ?_) | ((with_reducible refine rc_id ?_); refine rc_ret ?_) | ((with_reducible refine nx_tryid ?_); refine nx_try ?_) | ((with_reducible refine nx_resid ?_); refine nx_res ?_) | with_reducible (refine NX.go ?_; constructor) | with_reducible refine nx_blkx rfl ?_ | with_reducible refine nx_blky rfl ?_ | ((with_reducible refine nx_mkid ?_); refine nx_mk ?_) | ((with_reducible refine nx_asgid ?_); refine nx_asg ?_) | ((with_reducible refine nx_rndid ?_); first | refine nx_rnd (by assumption) ?_ | refine nx_rnde ?_ | refine nx_rndr ?_) | ((with_reducible refine nx_rngid ?_); first | refine nx_rng (by assumption) ?_ | refine nx_rngj ?_ | refine nx_rngp ?_) | fail)
    · simp only [hi.2, hst]; simp_all
    · refine nx_loop (i + 1) ⟨by omega, by rw [hi.2, hst]; simp_all⟩ (by omega) (sub_ren [] (by repeat' (first | exact trivial | exact rle_nil | refine rle_cons ?_ ?_ | exact rle_any | exact rle_dd | exact rle_ptr rfl | exact rle_row rfl rfl | exact rle_rowk rfl rfl | refine rle_agg ?_ | refine rle_tup ?_ | refine rle_ifc ?_ | refine rle_fn ?_ ?_ | exact rle_ep | exact rle_sv rfl | exact rle_yl rfl | refine ⟨⟨rfl, _, rfl, ?_⟩, ?_⟩ | exact rle_d rfl (by infer_instance) | refine ⟨⟨_, rfl, ?_⟩, ?_⟩ | refine ⟨⟨rfl, .inl ⟨rfl, _, _, rfl, rfl⟩⟩, ?_⟩ | refine ⟨⟨rfl, .inr ⟨rfl, rfl, rfl⟩⟩, ?_⟩ | refine ⟨⟨rfl, _, rfl, ?_⟩, ?_⟩ | refine ⟨?_, ?_⟩)) (by repeat' (first | exact trivial | exact rle_nil | refine rle_cons ?_ ?_ | exact rle_any | exact rle_dd | exact rle_ptr rfl | exact rle_row rfl rfl | exact rle_rowk rfl rfl | refine rle_agg ?_ | refine rle_tup ?_ | refine rle_ifc ?_ | refine rle_fn ?_ ?_ | exact rle_ep | exact rle_sv rfl | exact rle_yl rfl | refine ⟨⟨rfl, _, rfl, ?_⟩, ?_⟩ | exact rle_d rfl (by infer_instance) | refine ⟨⟨_, rfl, ?_⟩, ?_⟩ | refine ⟨⟨rfl, .inl ⟨rfl, _, _, rfl, rfl⟩⟩, ?_⟩ | refine ⟨⟨rfl, .inr ⟨rfl, rfl, rfl⟩⟩, ?_⟩ | refine ⟨⟨rfl, _, rfl, ?_⟩, ?_⟩ | refine ⟨?_, ?_⟩)) (by repeat' (first | exact trivial | exact rle_nil | refine rle_cons ?_ ?_ | exact rle_any | exact rle_dd | exact rle_ptr rfl | exact rle_row rfl rfl | exact rle_rowk rfl rfl | refine rle_agg ?_ | refine rle_tup ?_ | refine rle_ifc ?_ | refine rle_fn ?_ ?_ | exact rle_ep | exact rle_sv rfl | exact rle_yl rfl | refine ⟨⟨rfl, _, rfl, ?_⟩, ?_⟩ | exact rle_d rfl (by infer_instance) | refine ⟨⟨_, rfl, ?_⟩, ?_⟩ | refine ⟨⟨rfl, .inl ⟨rfl, _, _, rfl, rfl⟩⟩, ?_⟩ | refine ⟨⟨rfl, .inr ⟨rfl, rfl, rfl⟩⟩, ?_⟩ | refine ⟨⟨rfl, _, rfl, ?_⟩, ?_⟩ | refine ⟨?_, ?_⟩)) rfl rfl)
  · repeat' (first | with_reducible refine vw_seq ?_ | ((with_reducible refine vl_id ?_); first | fail | refine vs_x ?_ | fail | refine vs_p ?_ | refine vs_bs0 ?_ | refine vs_eqnil (fun _ _ => ?_) | refine vs_nenil (fun _ _ => ?_) | ((fail_if_success (refine vs_lit ?_)); first | (refine vs_case ?_ ?_ <;> intro _ <;> (try (exfalso; omega))) | (refine vs_caseb ?_ ?_ <;> intro _))) | ((with_reducible refine vd_id ?_); first | with_reducible refine vd_done ?_ | fail | refine vd_q ?_ | refine vd_rp ?_ | refine vd_rp ?_ (h := r_bs0) | refine vd_r ?_ (h := r_bs0) | refine vd_rs ?_ | refine vd_r ?_ | refine vd_appp ?_ | refine vd_appzp ?_ | refine vd_app ?_ | refine vd_appz ?_ | refine vd_store ?_ | refine vd_storez ?_ | refine vd_skip ?_ | fail | ((fail_if_success (refine vd_lit ?_)); (refine vd_case ?_ ?_ <;> intro hg <;> (first | (exfalso; (try simp only [decide_eq_true_eq, decide_eq_false_iff_not] at hg); omega) | rw [hg])))) | ((with_reducible refine vw_drid ?_); first | fail | refine vw_drawx ?_) | ((with_reducible refine vw_cid ?_); first | refine vw_condt ?_ | refine vw_condf ?_ | (refine vw_cp ?_ ?_ <;> intro _ <;> (try (exfalso; omega))) | (refine vw_cb ?_ ?_ <;> intro _)) | ((with_reducible refine rt_id ?_); first | refine rt_o ?_ | refine rt_a ?_) | ((with_reducible refine rt_idp ?_); refine rt_pan rfl ?_) | ((with_reducible refine rc_id ?_); refine rc_ret ?_) | ((with_reducible refine nx_tryid ?_); refine nx_try ?_) | ((with_reducible refine nx_resid ?_); refine nx_res ?_) | with_reducible (refine NX.go ?_; constructor) | with_reducible refine nx_blkx rfl ?_ | with_reducible refine nx_blky rfl ?_ | ((with_reducible refine nx_mkid ?_); refine nx_mk ?_) | ((with_reducible refine nx_asgid ?_); refine nx_asg ?_) | ((with_reducible refine nx_rndid ?_); first | refine nx_rnd (by assumption) ?_ | refine nx_rnde ?_ | refine nx_rndr ?_) | ((with_reducible refine nx_rngid ?_); first | refine nx_rng (by assumption) ?_ | refine nx_rngj ?_ | refine nx_rngp ?_) | fail)
    rw [hi.2, show l.length - i = 0 by omega]; rfl
theorem contains_v {f : FuncId} {ca : List D} (l : List (List D)) (hz : ∀ x ∈ l, x.length = 3) (p : Nat → Bool) (hcall : ∀ i x, l[i]? = some x → VP Try.prog f (.agg x :: ca) (· = .ret (.lit (.bool (p i))))) (hd : ∀ x ∈ l, DLs x x) [DLs ca ca] :
    VP Try.prog 70 [.sl false false l, .fn f [] ca] (· = .ret (.lit (.bool (decide (0 ≤ idxF p 0 l.length))))) := by
  haveI := dlss_of hd
  refine vp_of Try.func70 rfl Try.ntmps70 rfl Try.results70 fun B => ?_
  repeat' (first | with_reducible refine vw_seq ?_ | ((with_reducible refine vl_id ?_); first | fail | refine vs_x ?_ | ((with_reducible refine vl_id ?_); refine vq_l (index_v l hz p hcall hd) ?_; first | refine vs_call (index_v l hz p hcall hd) ?_ | refine vs_pan (index_v l hz p hcall hd) ?_ | refine vs_lentp (index_v l hz p hcall hd) ?_) | ((with_reducible refine vd_id ?_); refine vq_d (index_v l hz p hcall hd) ?_; first | refine vd_ret (index_v l hz p hcall hd) ?_ | refine vd_ownp (index_v l hz p hcall hd) ?_ | refine vd_own (index_v l hz p hcall hd) ?_ | refine vd_lent (index_v l hz p hcall hd) ?_) | refine vs_p ?_ | refine vs_bs0 ?_ | refine vs_eqnil (fun _ _ => ?_) | refine vs_nenil (fun _ _ => ?_) | ((fail_if_success (refine vs_lit ?_)); first | (refine vs_case ?_ ?_ <;> intro _ <;> (try (exfalso; omega))) | (refine vs_caseb ?_ ?_ <;> intro _))) | ((with_reducible refine vd_id ?_); first | with_reducible refine vd_done ?_ | fail | refine vd_q ?_ | refine vd_rp ?_ | refine vd_rp ?_ (h := r_bs0) | refine vd_r ?_ (h := r_bs0) | refine vd_rs ?_ | refine vd_r ?_ | refine vd_appp ?_ | refine vd_appzp ?_ | refine vd_app ?_ | refine vd_appz ?_ | refine vd_store ?_ | refine vd_storez ?_ | refine vd_skip ?_ | ((with_reducible refine vl_id ?_); refine vq_l (index_v l hz p hcall hd) ?_; first | refine vs_call (index_v l hz p hcall hd) ?_ | refine vs_pan (index_v l hz p hcall hd) ?_ | refine vs_lentp (index_v l hz p hcall hd) ?_) | ((with_reducible refine vd_id ?_); refine vq_d (index_v l hz p hcall hd) ?_; first | refine vd_ret (index_v l hz p hcall hd) ?_ | refine vd_ownp (index_v l hz p hcall hd) ?_ | refine vd_own (index_v l hz p hcall hd) ?_ | refine vd_lent (index_v l hz p hcall hd) ?_) | ((fail_if_success (refine vd_lit ?_)); (refine vd_case ?_ ?_ <;> intro hg <;> (first | (exfalso; (try simp only [decide_eq_true_eq, decide_eq_false_iff_not] at hg); omega) | rw [hg])))) | ((with_reducible refine vw_drid ?_); first | fail | refine vw_drawx ?_) | ((with_reducible refine vw_cid ?_); first | refine vw_condt ?_ | refine vw_condf ?_ | (refine vw_cp ?_ ?_ <;> intro _ <;> (try (exfalso; omega))) | (refine vw_cb ?_ ?_ <;> intro _)) | ((with_reducible refine rt_id ?_); first | refine rt_o ?_ | refine rt_a ?_) | ((with_reducible refine rt_idp ?_); refine rt_pan rfl ?_) | ((with_reducible refine rc_id ?_); refine rc_ret ?_) | ((with_reducible refine nx_tryid ?_); refine nx_try ?_) | ((with_reducible refine nx_resid ?_); refine nx_res ?_) | with_reducible (refine NX.go ?_; constructor) | with_reducible refine nx_blkx rfl ?_ | with_reducible refine nx_blky rfl ?_ | ((with_reducible refine nx_mkid ?_); refine nx_mk ?_) | ((with_reducible refine nx_asgid ?_); refine nx_asg ?_) | ((with_reducible refine nx_rndid ?_); first | refine nx_rnd (by assumption) ?_ | refine nx_rnde ?_ | refine nx_rndr ?_) | ((with_reducible refine nx_rngid ?_); first | refine nx_rng (by assumption) ?_ | refine nx_rngj ?_ | refine nx_rngp ?_) | fail)
  all_goals rfl
theorem idxF_neg {q : Nat → Bool} : ∀ (n i : Nat), 0 ≤ idxF q i n ↔ ¬ ∀ j, i ≤ j → j < i + n → q j = false
  | 0, i => by simp only [idxF]; constructor
               · intro h; omega
               · intro h; exact (h fun j h1 h2 => by omega).elim
  | n + 1, i => by
    simp only [idxF]
    by_cases h : q i = true
    · rw [if_pos h]
      constructor
      · intro _ h2; have := h2 i (Nat.le_refl _) (by omega); rw [h] at this; cases this
      · intro _; omega
    · rw [if_neg h, idxF_neg n (i + 1)]
      constructor
      · intro h1 h2; exact h1 fun j hj1 hj2 => h2 j (by omega) (by omega)
      · intro h1 h2
        refine h1 fun j hj1 hj2 => ?_
        by_cases e : j = i
        · subst e; simpa using h
        · exact h2 j (by omega) (by omega)
theorem len3 {α : Type} {x : List α} (h : x.length = 3) : ∃ a b c, x = [a, b, c] := by
  match x, h with
  | [a, b, c], _ => exact ⟨a, b, c, rfl⟩
theorem all1_v {f : FuncId} {ca : List D} {a b c : D} {p : Bool} (hcall : VP Try.prog f (.agg [a, b, c] :: ca) (· = .ret (.lit (.bool p)))) [DLs [a, b, c] [a, b, c]] [DLs ca ca] :
    VP Try.prog 71 [.agg [a, b, c], .pt [.fn f [] ca]] (· = .ret (.lit (.bool (!p)))) := by
  refine vp_of Try.func71 rfl Try.ntmps71 rfl Try.results71 fun B => ?_
  repeat' (first | with_reducible refine vw_seq ?_ | ((with_reducible refine vl_id ?_); first | fail | refine vs_x ?_ | ((with_reducible refine vl_id ?_); refine vq_l (hcall) ?_; first | refine vs_call (hcall) ?_ | refine vs_pan (hcall) ?_ | refine vs_lentp (hcall) ?_) | ((with_reducible refine vd_id ?_); refine vq_d (hcall) ?_; first | refine vd_ret (hcall) ?_ | refine vd_ownp (hcall) ?_ | refine vd_own (hcall) ?_ | refine vd_lent (hcall) ?_) | refine vs_p ?_ | refine vs_bs0 ?_ | refine vs_eqnil (fun _ _ => ?_) | refine vs_nenil (fun _ _ => ?_) | ((fail_if_success (refine vs_lit ?_)); first | (refine vs_case ?_ ?_ <;> intro _ <;> (try (exfalso; omega))) | (refine vs_caseb ?_ ?_ <;> intro _))) | ((with_reducible refine vd_id ?_); first | with_reducible refine vd_done ?_ | fail | refine vd_q ?_ | refine vd_rp ?_ | refine vd_rp ?_ (h := r_bs0) | refine vd_r ?_ (h := r_bs0) | refine vd_rs ?_ | refine vd_r ?_ | refine vd_appp ?_ | refine vd_appzp ?_ | refine vd_app ?_ | refine vd_appz ?_ | refine vd_store ?_ | refine vd_storez ?_ | refine vd_skip ?_ | ((with_reducible refine vl_id ?_); refine vq_l (hcall) ?_; first | refine vs_call (hcall) ?_ | refine vs_pan (hcall) ?_ | refine vs_lentp (hcall) ?_) | ((with_reducible refine vd_id ?_); refine vq_d (hcall) ?_; first | refine vd_ret (hcall) ?_ | refine vd_ownp (hcall) ?_ | refine vd_own (hcall) ?_ | refine vd_lent (hcall) ?_) | ((fail_if_success (refine vd_lit ?_)); (refine vd_case ?_ ?_ <;> intro hg <;> (first | (exfalso; (try simp only [decide_eq_true_eq, decide_eq_false_iff_not] at hg); omega) | rw [hg])))) | ((with_reducible refine vw_drid ?_); first | fail | refine vw_drawx ?_) | ((with_reducible refine vw_cid ?_); first | refine vw_condt ?_ | refine vw_condf ?_ | (refine vw_cp ?_ ?_ <;> intro _ <;> (try (exfalso; omega))) | (refine vw_cb ?_ ?_ <;> intro _)) | ((with_reducible refine rt_id ?_); first | refine rt_o ?_ | refine rt_a ?_) | ((with_reducible refine rt_idp ?_); refine rt_pan rfl ?_) | ((with_reducible refine rc_id ?_); refine rc_ret ?_) | ((with_reducible refine nx_tryid ?_); refine nx_try ?_) | ((with_reducible refine nx_resid ?_); refine nx_res ?_) | with_reducible (refine NX.go ?_; constructor) | with_reducible refine nx_blkx rfl ?_ | with_reducible refine nx_blky rfl ?_ | ((with_reducible refine nx_mkid ?_); refine nx_mk ?_) | ((with_reducible refine nx_asgid ?_); refine nx_asg ?_) | ((with_reducible refine nx_rndid ?_); first | refine nx_rnd (by assumption) ?_ | refine nx_rnde ?_ | refine nx_rndr ?_) | ((with_reducible refine nx_rngid ?_); first | refine nx_rng (by assumption) ?_ | refine nx_rngj ?_ | refine nx_rngp ?_) | fail)
  all_goals rfl
theorem all_v {f : FuncId} {ca : List D} (l : List (List D)) (hz : ∀ x ∈ l, x.length = 3) (p : Nat → Bool) (hcall : ∀ i x, l[i]? = some x → VP Try.prog f (.agg x :: ca) (· = .ret (.lit (.bool (p i))))) (hd : ∀ x ∈ l, DLs x x) [DLs ca ca] :
    VP Try.prog 55 [.sl false false l, .fn f [] ca] (· = .ret (.lit (.bool (decide (∀ i, i < l.length → p i = true))))) := by
  haveI := dlss_of hd
  refine vp_of Try.func55 rfl Try.ntmps55 rfl Try.results55 fun B => ?_
  repeat' (first | with_reducible refine vw_seq ?_ | ((with_reducible refine vl_id ?_); first | fail | refine vs_x ?_ | refine vs_call (contains_v (ca := [.pt [.fn f [] ca]]) l hz (fun i => !p i) (fun i x hx => by obtain ⟨a, b, c, rfl⟩ := len3 (hz x (List.mem_of_getElem? hx)); haveI := hd _ (List.mem_of_getElem? hx); exact all1_v (hcall i _ hx)) hd) ?_ | refine vs_pan (contains_v (ca := [.pt [.fn f [] ca]]) l hz (fun i => !p i) (fun i x hx => by obtain ⟨a, b, c, rfl⟩ := len3 (hz x (List.mem_of_getElem? hx)); haveI := hd _ (List.mem_of_getElem? hx); exact all1_v (hcall i _ hx)) hd) ?_ | refine vd_ret (contains_v (ca := [.pt [.fn f [] ca]]) l hz (fun i => !p i) (fun i x hx => by obtain ⟨a, b, c, rfl⟩ := len3 (hz x (List.mem_of_getElem? hx)); haveI := hd _ (List.mem_of_getElem? hx); exact all1_v (hcall i _ hx)) hd) ?_ | refine vd_ownp (contains_v (ca := [.pt [.fn f [] ca]]) l hz (fun i => !p i) (fun i x hx => by obtain ⟨a, b, c, rfl⟩ := len3 (hz x (List.mem_of_getElem? hx)); haveI := hd _ (List.mem_of_getElem? hx); exact all1_v (hcall i _ hx)) hd) ?_ | refine vd_own (contains_v (ca := [.pt [.fn f [] ca]]) l hz (fun i => !p i) (fun i x hx => by obtain ⟨a, b, c, rfl⟩ := len3 (hz x (List.mem_of_getElem? hx)); haveI := hd _ (List.mem_of_getElem? hx); exact all1_v (hcall i _ hx)) hd) ?_ | refine vs_lentp (contains_v (ca := [.pt [.fn f [] ca]]) l hz (fun i => !p i) (fun i x hx => by obtain ⟨a, b, c, rfl⟩ := len3 (hz x (List.mem_of_getElem? hx)); haveI := hd _ (List.mem_of_getElem? hx); exact all1_v (hcall i _ hx)) hd) ?_ | refine vd_lent (contains_v (ca := [.pt [.fn f [] ca]]) l hz (fun i => !p i) (fun i x hx => by obtain ⟨a, b, c, rfl⟩ := len3 (hz x (List.mem_of_getElem? hx)); haveI := hd _ (List.mem_of_getElem? hx); exact all1_v (hcall i _ hx)) hd) ?_ | refine vs_p ?_ | refine vs_bs0 ?_ | refine vs_eqnil (fun _ _ => ?_) | refine vs_nenil (fun _ _ => ?_) | ((fail_if_success (refine vs_lit ?_)); first | (refine vs_case ?_ ?_ <;> intro _ <;> (try (exfalso; omega))) | (refine vs_caseb ?_ ?_ <;> intro _))) | ((with_reducible refine vd_id ?_); first | with_reducible refine vd_done ?_ | fail | refine vd_q ?_ | refine vd_rp ?_ | refine vd_rp ?_ (h := r_bs0) | refine vd_r ?_ (h := r_bs0) | refine vd_rs ?_ | refine vd_r ?_ | refine vd_appp ?_ | refine vd_appzp ?_ | refine vd_app ?_ | refine vd_appz ?_ | refine vd_store ?_ | refine vd_storez ?_ | refine vd_skip ?_ | refine vs_call (contains_v (ca := [.pt [.fn f [] ca]]) l hz (fun i => !p i) (fun i x hx => by obtain ⟨a, b, c, rfl⟩ := len3 (hz x (List.mem_of_getElem? hx)); haveI := hd _ (List.mem_of_getElem? hx); exact all1_v (hcall i _ hx)) hd) ?_ | refine vs_pan (contains_v (ca := [.pt [.fn f [] ca]]) l hz (fun i => !p i) (fun i x hx => by obtain ⟨a, b, c, rfl⟩ := len3 (hz x (List.mem_of_getElem? hx)); haveI := hd _ (List.mem_of_getElem? hx); exact all1_v (hcall i _ hx)) hd) ?_ | refine vd_ret (contains_v (ca := [.pt [.fn f [] ca]]) l hz (fun i => !p i) (fun i x hx => by obtain ⟨a, b, c, rfl⟩ := len3 (hz x (List.mem_of_getElem? hx)); haveI := hd _ (List.mem_of_getElem? hx); exact all1_v (hcall i _ hx)) hd) ?_ | refine vd_ownp (contains_v (ca := [.pt [.fn f [] ca]]) l hz (fun i => !p i) (fun i x hx => by obtain ⟨a, b, c, rfl⟩ := len3 (hz x (List.mem_of_getElem? hx)); haveI := hd _ (List.mem_of_getElem? hx); exact all1_v (hcall i _ hx)) hd) ?_ | refine vd_own (contains_v (ca := [.pt [.fn f [] ca]]) l hz (fun i => !p i) (fun i x hx => by obtain ⟨a, b, c, rfl⟩ := len3 (hz x (List.mem_of_getElem? hx)); haveI := hd _ (List.mem_of_getElem? hx); exact all1_v (hcall i _ hx)) hd) ?_ | refine vs_lentp (contains_v (ca := [.pt [.fn f [] ca]]) l hz (fun i => !p i) (fun i x hx => by obtain ⟨a, b, c, rfl⟩ := len3 (hz x (List.mem_of_getElem? hx)); haveI := hd _ (List.mem_of_getElem? hx); exact all1_v (hcall i _ hx)) hd) ?_ | refine vd_lent (contains_v (ca := [.pt [.fn f [] ca]]) l hz (fun i => !p i) (fun i x hx => by obtain ⟨a, b, c, rfl⟩ := len3 (hz x (List.mem_of_getElem? hx)); haveI := hd _ (List.mem_of_getElem? hx); exact all1_v (hcall i _ hx)) hd) ?_ | ((fail_if_success (refine vd_lit ?_)); (refine vd_case ?_ ?_ <;> intro hg <;> (first | (exfalso; (try simp only [decide_eq_true_eq, decide_eq_false_iff_not] at hg); omega) | rw [hg])))) | ((with_reducible refine vw_drid ?_); first | fail | refine vw_drawx ?_) | ((with_reducible refine vw_cid ?_); first | refine vw_condt ?_ | refine vw_condf ?_ | (refine vw_cp ?_ ?_ <;> intro _ <;> (try (exfalso; omega))) | (refine vw_cb ?_ ?_ <;> intro _)) | ((with_reducible refine rt_id ?_); first | refine rt_o ?_ | refine rt_a ?_) | ((with_reducible refine rt_idp ?_); refine rt_pan rfl ?_) | ((with_reducible refine rc_id ?_); refine rc_ret ?_) | ((with_reducible refine nx_tryid ?_); refine nx_try ?_) | ((with_reducible refine nx_resid ?_); refine nx_res ?_) | with_reducible (refine NX.go ?_; constructor) | with_reducible refine nx_blkx rfl ?_ | with_reducible refine nx_blky rfl ?_ | ((with_reducible refine nx_mkid ?_); refine nx_mk ?_) | ((with_reducible refine nx_asgid ?_); refine nx_asg ?_) | ((with_reducible refine nx_rndid ?_); first | refine nx_rnd (by assumption) ?_ | refine nx_rnde ?_ | refine nx_rndr ?_) | ((with_reducible refine nx_rngid ?_); first | refine nx_rng (by assumption) ?_ | refine nx_rngj ?_ | refine nx_rngp ?_) | fail)
  all_goals (have hb : (decide (¬ 0 ≤ idxF (fun i => !p i) 0 l.length)) = decide (∀ i, i < l.length → p i = true) := by rw [Bool.eq_iff_iff]; simp [idxF_neg])
  all_goals rw [hb]
end Go.Proofs.Ytjfaihpiohccbaa

namespace Go.Proofs.Ytjfaihpiohccbaa
open Go.RowKit
set_option maxRecDepth 10000

structure DOp where
  k : Int
  f : Int
  b : List UInt8
abbrev opD (o : DOp) : List D := [.lit (.int .i64 o.k), .lit (.int .i64 o.f), .sl false false (byD o.b)]
structure Dk where
  f0 : List UInt8
  f1 : List UInt8
  f2 : List UInt8
  f3 : List UInt8
  head : Int
  waits : List DOp
  down : Bool
  fuse : Int
abbrev dkD (d : Dk) : List D := [.sl false false (byD d.f0), .sl false false (byD d.f1), .sl false false (byD d.f2), .sl false false (byD d.f3), .lit (.int .i64 d.head), .sl false false (d.waits.map opD), .lit (.bool d.down), .lit (.int .i64 d.fuse)]
instance (b : List UInt8) : DLss (b.map fun x => [D.lit (vb x)]) (b.map fun x => [D.lit (vb x)]) := dlss_of fun x hx => by obtain ⟨n, _, rfl⟩ := List.mem_map.1 hx; infer_instance
instance (l : List DOp) : DLss (l.map opD) (l.map opD) := dlss_of fun x hx => by obtain ⟨n, _, rfl⟩ := List.mem_map.1 hx; infer_instance
structure S4 where
  a : Int
  b : Int
  c : Int
  d : Int
abbrev szD (s : S4) : List D := [.lit (.int .i64 s.a), .lit (.int .i64 s.b), .lit (.int .i64 s.c), .lit (.int .i64 s.d)]
def S4.get (s : S4) (i : Int) : Int := if i = 0 then s.a else if i = 1 then s.b else if i = 2 then s.c else s.d
def aft1 (o : DOp) (n : Int) : Int := (if o.k = 2 then 0 else n) + o.b.length
def aft (o : DOp) (s : S4) : S4 := if o.f = 0 then { s with a := aft1 o s.a } else if o.f = 1 then { s with b := aft1 o s.b } else if o.f = 2 then { s with c := aft1 o s.c } else { s with d := aft1 o s.d }
def S4.in (s : S4) : Prop := (0 ≤ s.a ∧ s.a ≤ 4194304) ∧ (0 ≤ s.b ∧ s.b ≤ 4194304) ∧ (0 ≤ s.c ∧ s.c ≤ 4194304) ∧ (0 ≤ s.d ∧ s.d ≤ 4194304)
theorem byD_len (b : List UInt8) : (byD b).length = b.length := by simp [byD]
theorem after_v (s : S4) (o : DOp) (hs : s.in) (hf : 0 ≤ o.f ∧ o.f < 4) (hl : o.b.length ≤ 140737488355328) :
    VP Try.prog 58 [.agg (szD s), .agg (opD o)] (· = .ret (.agg (szD (aft o s)))) := by
  obtain ⟨k, f, b⟩ := o
  obtain ⟨a, b2, c, d⟩ := s
  simp only [S4.in] at hs
  have hbl := byD_len b
  simp only at hf hl
  have h4 : f = 0 ∨ f = 1 ∨ f = 2 ∨ f = 3 := by omega
  rcases h4 with rfl | rfl | rfl | rfl
  all_goals
    simp only [opD, szD]
    refine vp_of Try.func58 rfl Try.ntmps58 rfl Try.results58 fun B => ?_
    repeat' (first | with_reducible refine vw_seq ?_ | ((with_reducible refine vl_id ?_); first | fail | refine vs_x ?_ | fail | refine vs_p ?_ | refine vs_bs0 ?_ | refine vs_eqnil (fun _ _ => ?_) | refine vs_nenil (fun _ _ => ?_) | ((fail_if_success (refine vs_lit ?_)); first | (refine vs_case ?_ ?_ <;> intro _ <;> (try (exfalso; omega))) | (refine vs_caseb ?_ ?_ <;> intro _))) | ((with_reducible refine vd_id ?_); first | with_reducible refine vd_done ?_ | fail | refine vd_q ?_ | refine vd_rp ?_ | refine vd_rp ?_ (h := r_bs0) | refine vd_r ?_ (h := r_bs0) | refine vd_rs ?_ | refine vd_r ?_ | refine vd_appp ?_ | refine vd_appzp ?_ | refine vd_app ?_ | refine vd_appz ?_ | refine vd_store ?_ | refine vd_storez ?_ | refine vd_skip ?_ | fail | ((fail_if_success (refine vd_lit ?_)); (refine vd_case ?_ ?_ <;> intro hg <;> (first | (exfalso; (try simp only [decide_eq_true_eq, decide_eq_false_iff_not] at hg); omega) | rw [hg])))) | ((with_reducible refine vw_drid ?_); first | fail | refine vw_drawx ?_) | ((with_reducible refine vw_cid ?_); first | refine vw_condt ?_ | refine vw_condf ?_ | (refine vw_cp ?_ ?_ <;> intro _ <;> (try (exfalso; omega))) | (refine vw_cb ?_ ?_ <;> intro _)) | ((with_reducible refine rt_id ?_); first | refine rt_o ?_ | refine rt_a ?_) | ((with_reducible refine rt_idp ?_); refine rt_pan rfl ?_) | ((with_reducible refine rc_id ?_); refine rc_ret ?_) | ((with_reducible refine nx_tryid ?_); refine nx_try ?_) | ((with_reducible refine nx_resid ?_); refine nx_res ?_) | with_reducible (refine NX.go ?_; constructor) | with_reducible refine nx_blkx rfl ?_ | with_reducible refine nx_blky rfl ?_ | ((with_reducible refine nx_mkid ?_); refine nx_mk ?_) | ((with_reducible refine nx_asgid ?_); refine nx_asg ?_) | ((with_reducible refine nx_rndid ?_); first | refine nx_rnd (by assumption) ?_ | refine nx_rnde ?_ | refine nx_rndr ?_) | ((with_reducible refine nx_rngid ?_); first | refine nx_rng (by assumption) ?_ | refine nx_rngj ?_ | refine nx_rngp ?_) | fail)
  all_goals (simp [szD, aft, aft1, *]; done)
def sz4 (d : Dk) : S4 := ⟨d.f0.length, d.f1.length, d.f2.length, d.f3.length⟩
theorem sized_v (d : Dk) : VP Try.prog 54 [.agg (dkD d)] (· = .ret (.agg (szD (sz4 d)))) := by
  simp only [dkD, szD]
  refine vp_of Try.func54 rfl Try.ntmps54 rfl Try.results54 fun B => ?_
  repeat' (first | with_reducible refine vw_seq ?_ | ((with_reducible refine vl_id ?_); first | fail | refine vs_x ?_ | fail | refine vs_p ?_ | refine vs_bs0 ?_ | refine vs_eqnil (fun _ _ => ?_) | refine vs_nenil (fun _ _ => ?_) | ((fail_if_success (refine vs_lit ?_)); first | (refine vs_case ?_ ?_ <;> intro _ <;> (try (exfalso; omega))) | (refine vs_caseb ?_ ?_ <;> intro _))) | ((with_reducible refine vd_id ?_); first | with_reducible refine vd_done ?_ | fail | refine vd_q ?_ | refine vd_rp ?_ | refine vd_rp ?_ (h := r_bs0) | refine vd_r ?_ (h := r_bs0) | refine vd_rs ?_ | refine vd_r ?_ | refine vd_appp ?_ | refine vd_appzp ?_ | refine vd_app ?_ | refine vd_appz ?_ | refine vd_store ?_ | refine vd_storez ?_ | refine vd_skip ?_ | fail | ((fail_if_success (refine vd_lit ?_)); (refine vd_case ?_ ?_ <;> intro hg <;> (first | (exfalso; (try simp only [decide_eq_true_eq, decide_eq_false_iff_not] at hg); omega) | rw [hg])))) | ((with_reducible refine vw_drid ?_); first | fail | refine vw_drawx ?_) | ((with_reducible refine vw_cid ?_); first | refine vw_condt ?_ | refine vw_condf ?_ | (refine vw_cp ?_ ?_ <;> intro _ <;> (try (exfalso; omega))) | (refine vw_cb ?_ ?_ <;> intro _)) | ((with_reducible refine rt_id ?_); first | refine rt_o ?_ | refine rt_a ?_) | ((with_reducible refine rt_idp ?_); refine rt_pan rfl ?_) | ((with_reducible refine rc_id ?_); refine rc_ret ?_) | ((with_reducible refine nx_tryid ?_); refine nx_try ?_) | ((with_reducible refine nx_resid ?_); refine nx_res ?_) | with_reducible (refine NX.go ?_; constructor) | with_reducible refine nx_blkx rfl ?_ | with_reducible refine nx_blky rfl ?_ | ((with_reducible refine nx_mkid ?_); refine nx_mk ?_) | ((with_reducible refine nx_asgid ?_); refine nx_asg ?_) | ((with_reducible refine nx_rndid ?_); first | refine nx_rnd (by assumption) ?_ | refine nx_rnde ?_ | refine nx_rndr ?_) | ((with_reducible refine nx_rngid ?_); first | refine nx_rng (by assumption) ?_ | refine nx_rngj ?_ | refine nx_rngp ?_) | fail)
  refine vw_rounds 5 ?_
  repeat' (first | with_reducible refine vw_seq ?_ | ((with_reducible refine vl_id ?_); first | fail | refine vs_x ?_ | fail | refine vs_p ?_ | refine vs_bs0 ?_ | refine vs_eqnil (fun _ _ => ?_) | refine vs_nenil (fun _ _ => ?_) | ((fail_if_success (refine vs_lit ?_)); first | (refine vs_case ?_ ?_ <;> intro _ <;> (try (exfalso; omega))) | (refine vs_caseb ?_ ?_ <;> intro _))) | ((with_reducible refine vd_id ?_); first | with_reducible refine vd_done ?_ | fail | refine vd_q ?_ | refine vd_rp ?_ | refine vd_rp ?_ (h := r_bs0) | refine vd_r ?_ (h := r_bs0) | refine vd_rs ?_ | refine vd_r ?_ | refine vd_appp ?_ | refine vd_appzp ?_ | refine vd_app ?_ | refine vd_appz ?_ | refine vd_store ?_ | refine vd_storez ?_ | refine vd_skip ?_ | fail | ((fail_if_success (refine vd_lit ?_)); (refine vd_case ?_ ?_ <;> intro hg <;> (first | (exfalso; (try simp only [decide_eq_true_eq, decide_eq_false_iff_not] at hg); omega) | rw [hg])))) | ((with_reducible refine vw_drid ?_); first | fail | refine vw_drawx ?_) | ((with_reducible refine vw_cid ?_); first | refine vw_condt ?_ | refine vw_condf ?_ | (refine vw_cp ?_ ?_ <;> intro _ <;> (try (exfalso; omega))) | (refine vw_cb ?_ ?_ <;> intro _)) | ((with_reducible refine rt_id ?_); first | refine rt_o ?_ | refine rt_a ?_) | ((with_reducible refine rt_idp ?_); refine rt_pan rfl ?_) | ((with_reducible refine rc_id ?_); refine rc_ret ?_) | ((with_reducible refine nx_tryid ?_); refine nx_try ?_) | ((with_reducible refine nx_resid ?_); refine nx_res ?_) | with_reducible (refine NX.go ?_; constructor) | with_reducible refine nx_blkx rfl ?_ | with_reducible refine nx_blky rfl ?_ | ((with_reducible refine nx_mkid ?_); refine nx_mk ?_) | ((with_reducible refine nx_asgid ?_); refine nx_asg ?_) | ((with_reducible refine nx_rndid ?_); first | refine nx_rnd (by assumption) ?_ | refine nx_rnde ?_ | refine nx_rndr ?_) | ((with_reducible refine nx_rngid ?_); first | refine nx_rng (by assumption) ?_ | refine nx_rngj ?_ | refine nx_rngp ?_) | fail)
  all_goals first | (simp [szD, sz4, byD_len]; done) | (exfalso; omega)
end Go.Proofs.Ytjfaihpiohccbaa

namespace Go.Proofs.Ytjfaihpiohccbaa
open Go.RowKit
set_option maxRecDepth 10000
abbrev inD (l : List Int) : List (List D) := l.map fun n => [.lit (.int .i64 n)]
theorem index_i {f : FuncId} {ca : List D} (l : List Int) (p : Nat → Bool) (hcall : ∀ i n, l[i]? = some n → VP Try.prog f (.lit (.int .i64 n) :: ca) (· = .ret (.lit (.bool (p i))))) [DLs ca ca] :
    VP Try.prog 78 [.sl false false (inD l), .fn f [] ca] (· = .ret (.lit (.int .i64 (idxF p 0 (inD l).length)))) := by
  refine vp_of Try.func78 rfl Try.ntmps78 rfl Try.results78 fun B => ?_
  repeat' (first | with_reducible refine vw_seq ?_ | ((with_reducible refine vl_id ?_); first | fail | refine vs_x ?_ | fail | refine vs_p ?_ | refine vs_bs0 ?_ | refine vs_eqnil (fun _ _ => ?_) | refine vs_nenil (fun _ _ => ?_) | ((fail_if_success (refine vs_lit ?_)); first | (refine vs_case ?_ ?_ <;> intro _ <;> (try (exfalso; omega))) | (refine vs_caseb ?_ ?_ <;> intro _))) | ((with_reducible refine vd_id ?_); first | with_reducible refine vd_done ?_ | fail | refine vd_q ?_ | refine vd_rp ?_ | refine vd_rp ?_ (h := r_bs0) | refine vd_r ?_ (h := r_bs0) | refine vd_rs ?_ | refine vd_r ?_ | refine vd_appp ?_ | refine vd_appzp ?_ | refine vd_app ?_ | refine vd_appz ?_ | refine vd_store ?_ | refine vd_storez ?_ | refine vd_skip ?_ | fail | ((fail_if_success (refine vd_lit ?_)); (refine vd_case ?_ ?_ <;> intro hg <;> (first | (exfalso; (try simp only [decide_eq_true_eq, decide_eq_false_iff_not] at hg); omega) | rw [hg])))) | ((with_reducible refine vw_drid ?_); first | fail | refine vw_drawx ?_) | ((with_reducible refine vw_cid ?_); first | refine vw_condt ?_ | refine vw_condf ?_ | (refine vw_cp ?_ ?_ <;> intro _ <;> (try (exfalso; omega))) | (refine vw_cb ?_ ?_ <;> intro _)) | ((with_reducible refine rt_id ?_); first | refine rt_o ?_ | refine rt_a ?_) | ((with_reducible refine rt_idp ?_); refine rt_pan rfl ?_) | ((with_reducible refine rc_id ?_); refine rc_ret ?_) | ((with_reducible refine nx_tryid ?_); refine nx_try ?_) | ((with_reducible refine nx_resid ?_); refine nx_res ?_) | with_reducible (refine NX.go ?_; constructor) | with_reducible refine nx_blkx rfl ?_ | with_reducible refine nx_blky rfl ?_ | ((with_reducible refine nx_mkid ?_); refine nx_mk ?_) | ((with_reducible refine nx_asgid ?_); refine nx_asg ?_) | ((with_reducible refine nx_rndid ?_); first | refine nx_rnd (by assumption) ?_ | refine nx_rnde ?_ | refine nx_rndr ?_) | ((with_reducible refine nx_rngid ?_); first | refine nx_rng (by assumption) ?_ | refine nx_rngj ?_ | refine nx_rngp ?_) | fail)
  refine vw_len 0 rfl fun hlen => ?_
  refine vw_loop (fun i : Nat => ⟨[(8, .d (.lit (.int .i64 i))), (7, .d (.lit (.int .i64 (inD l).length))), (1, .d (.fn f [] ca)), (0, .d (.sl false false (inD l)))], [], 0⟩) (fun i => i ≤ (inD l).length ∧ idxF p 0 (inD l).length = idxF p i ((inD l).length - i)) (fun i => (inD l).length - i) 0 (sub_ren [] (by repeat' (first | exact trivial | exact rle_nil | refine rle_cons ?_ ?_ | exact rle_any | exact rle_dd | exact rle_ptr rfl | exact rle_row rfl rfl | exact rle_rowk rfl rfl | refine rle_agg ?_ | refine rle_tup ?_ | refine rle_ifc ?_ | refine rle_fn ?_ ?_ | exact rle_ep | exact rle_sv rfl | exact rle_yl rfl | refine ⟨⟨rfl, _, rfl, ?_⟩, ?_⟩ | exact rle_d rfl (by infer_instance) | refine ⟨⟨_, rfl, ?_⟩, ?_⟩ | refine ⟨⟨rfl, .inl ⟨rfl, _, _, rfl, rfl⟩⟩, ?_⟩ | refine ⟨⟨rfl, .inr ⟨rfl, rfl, rfl⟩⟩, ?_⟩ | refine ⟨⟨rfl, _, rfl, ?_⟩, ?_⟩ | refine ⟨?_, ?_⟩)) (by repeat' (first | exact trivial | exact rle_nil | refine rle_cons ?_ ?_ | exact rle_any | exact rle_dd | exact rle_ptr rfl | exact rle_row rfl rfl | exact rle_rowk rfl rfl | refine rle_agg ?_ | refine rle_tup ?_ | refine rle_ifc ?_ | refine rle_fn ?_ ?_ | exact rle_ep | exact rle_sv rfl | exact rle_yl rfl | refine ⟨⟨rfl, _, rfl, ?_⟩, ?_⟩ | exact rle_d rfl (by infer_instance) | refine ⟨⟨_, rfl, ?_⟩, ?_⟩ | refine ⟨⟨rfl, .inl ⟨rfl, _, _, rfl, rfl⟩⟩, ?_⟩ | refine ⟨⟨rfl, .inr ⟨rfl, rfl, rfl⟩⟩, ?_⟩ | refine ⟨⟨rfl, _, rfl, ?_⟩, ?_⟩ | refine ⟨?_, ?_⟩)) (by repeat' (first | exact trivial | exact rle_nil | refine rle_cons ?_ ?_ | exact rle_any | exact rle_dd | exact rle_ptr rfl | exact rle_row rfl rfl | exact rle_rowk rfl rfl | refine rle_agg ?_ | refine rle_tup ?_ | refine rle_ifc ?_ | refine rle_fn ?_ ?_ | exact rle_ep | exact rle_sv rfl | exact rle_yl rfl | refine ⟨⟨rfl, _, rfl, ?_⟩, ?_⟩ | exact rle_d rfl (by infer_instance) | refine ⟨⟨_, rfl, ?_⟩, ?_⟩ | refine ⟨⟨rfl, .inl ⟨rfl, _, _, rfl, rfl⟩⟩, ?_⟩ | refine ⟨⟨rfl, .inr ⟨rfl, rfl, rfl⟩⟩, ?_⟩ | refine ⟨⟨rfl, _, rfl, ?_⟩, ?_⟩ | refine ⟨?_, ?_⟩)) rfl rfl) ⟨Nat.zero_le _, rfl⟩ fun i hi => ?_
  rcases Nat.lt_or_ge i (inD l).length with h | h
  · obtain ⟨n, hn⟩ : ∃ n, l[i]? = some n := ⟨_, List.getElem?_eq_getElem (by simpa using h)⟩
    have hx' : (inD l)[((i : Nat) : Int).toNat]? = some [.lit (.int .i64 n)] := by simp [hn]
    have hst : idxF p i ((inD l).length - i) = if p i then (i : Int) else idxF p (i + 1) ((inD l).length - (i + 1)) := by rw [show (inD l).length - i = ((inD l).length - (i + 1)) + 1 by omega]; rfl
    repeat' (first | with_reducible refine vw_seq ?_ | ((with_reducible refine vl_id ?_); first | fail | refine vs_x ?_ | ((with_reducible refine vl_id ?_); refine vq_l (hcall i n hn) ?_; first | refine vs_call (hcall i n hn) ?_ | refine vs_pan (hcall i n hn) ?_ | refine vs_lentp (hcall i n hn) ?_) | ((with_reducible refine vd_id ?_); refine vq_d (hcall i n hn) ?_; first | refine vd_ret (hcall i n hn) ?_ | refine vd_ownp (hcall i n hn) ?_ | refine vd_own (hcall i n hn) ?_ | refine vd_lent (hcall i n hn) ?_) | refine vs_p ?_ | refine vs_bs0 ?_ | refine vs_eqnil (fun _ _ => ?_) | refine vs_nenil (fun _ _ => ?_) | ((fail_if_success (refine vs_lit ?_)); first | (refine vs_case ?_ ?_ <;> intro _ <;> (try (exfalso; omega))) | (refine vs_caseb ?_ ?_ <;> intro _))) | ((with_reducible refine vd_id ?_); first | with_reducible refine vd_done ?_ | fail | refine vd_q ?_ | refine vd_rp ?_ | refine vd_rp ?_ (h := r_bs0) | refine vd_r ?_ (h := r_bs0) | refine vd_rs ?_ | refine vd_r ?_ | refine vd_appp ?_ | refine vd_appzp ?_ | refine vd_app ?_ | refine vd_appz ?_ | refine vd_store ?_ | refine vd_storez ?_ | refine vd_skip ?_ | ((with_reducible refine vl_id ?_); refine vq_l (hcall i n hn) ?_; first | refine vs_call (hcall i n hn) ?_ | refine vs_pan (hcall i n hn) ?_ | refine vs_lentp (hcall i n hn) ?_) | ((with_reducible refine vd_id ?_); refine vq_d (hcall i n hn) ?_; first | refine vd_ret (hcall i n hn) ?_ | refine vd_ownp (hcall i n hn) ?_ | refine vd_own (hcall i n hn) ?_ | refine vd_lent (hcall i n hn) ?_) | ((fail_if_success (refine vd_lit ?_)); (refine vd_case ?_ ?_ <;> intro hg <;> (first | (exfalso; (try simp only [decide_eq_true_eq, decide_eq_false_iff_not] at hg); omega) | rw [hg])))) | ((with_reducible refine vw_drid ?_); first | fail | refine vw_drawx ?_) | ((with_reducible refine vw_cid ?_); first | refine vw_condt ?_ | refine vw_condf ?_ | (refine vw_cp ?_ ?_ <;> intro _ <;> (try (exfalso; omega))) | (refine vw_cb ?_ ?_ <;> intro _)) | ((with_reducible refine rt_id ?_); first | refine rt_o ?_ | refine rt_a ?_) | ((with_reducible refine rt_idp ?_); refine rt_pan rfl ?_) | ((with_reducible refine rc_id ?_); refine rc_ret ?_) | ((with_reducible refine nx_tryid ?_); refine nx_try ?_) | ((with_reducible refine nx_resid ?_); refine nx_res ?_) | with_reducible (refine NX.go ?_; constructor) | with_reducible refine nx_blkx rfl ?_ | with_reducible refine nx_blky rfl ?_ | ((with_reducible refine nx_mkid ?_); refine nx_mk ?_) | ((with_reducible refine nx_asgid ?_); refine nx_asg ?_) | ((with_reducible refine nx_rndid ?_); first | refine nx_rnd (by assumption) ?_ | refine nx_rnde ?_ | refine nx_rndr ?_) | ((with_reducible refine nx_rngid ?_); first | refine nx_rng (by assumption) ?_ | refine nx_rngj ?_ | refine nx_rngp ?_) | fail)
    · rw [hi.2, hst]; simp_all
    · refine nx_loop (i + 1) ⟨by omega, by rw [hi.2, hst]; simp_all⟩ (by omega) (sub_ren [] (by repeat' (first | exact trivial | exact rle_nil | refine rle_cons ?_ ?_ | exact rle_any | exact rle_dd | exact rle_ptr rfl | exact rle_row rfl rfl | exact rle_rowk rfl rfl | refine rle_agg ?_ | refine rle_tup ?_ | refine rle_ifc ?_ | refine rle_fn ?_ ?_ | exact rle_ep | exact rle_sv rfl | exact rle_yl rfl | refine ⟨⟨rfl, _, rfl, ?_⟩, ?_⟩ | exact rle_d rfl (by infer_instance) | refine ⟨⟨_, rfl, ?_⟩, ?_⟩ | refine ⟨⟨rfl, .inl ⟨rfl, _, _, rfl, rfl⟩⟩, ?_⟩ | refine ⟨⟨rfl, .inr ⟨rfl, rfl, rfl⟩⟩, ?_⟩ | refine ⟨⟨rfl, _, rfl, ?_⟩, ?_⟩ | refine ⟨?_, ?_⟩)) (by repeat' (first | exact trivial | exact rle_nil | refine rle_cons ?_ ?_ | exact rle_any | exact rle_dd | exact rle_ptr rfl | exact rle_row rfl rfl | exact rle_rowk rfl rfl | refine rle_agg ?_ | refine rle_tup ?_ | refine rle_ifc ?_ | refine rle_fn ?_ ?_ | exact rle_ep | exact rle_sv rfl | exact rle_yl rfl | refine ⟨⟨rfl, _, rfl, ?_⟩, ?_⟩ | exact rle_d rfl (by infer_instance) | refine ⟨⟨_, rfl, ?_⟩, ?_⟩ | refine ⟨⟨rfl, .inl ⟨rfl, _, _, rfl, rfl⟩⟩, ?_⟩ | refine ⟨⟨rfl, .inr ⟨rfl, rfl, rfl⟩⟩, ?_⟩ | refine ⟨⟨rfl, _, rfl, ?_⟩, ?_⟩ | refine ⟨?_, ?_⟩)) (by repeat' (first | exact trivial | exact rle_nil | refine rle_cons ?_ ?_ | exact rle_any | exact rle_dd | exact rle_ptr rfl | exact rle_row rfl rfl | exact rle_rowk rfl rfl | refine rle_agg ?_ | refine rle_tup ?_ | refine rle_ifc ?_ | refine rle_fn ?_ ?_ | exact rle_ep | exact rle_sv rfl | exact rle_yl rfl | refine ⟨⟨rfl, _, rfl, ?_⟩, ?_⟩ | exact rle_d rfl (by infer_instance) | refine ⟨⟨_, rfl, ?_⟩, ?_⟩ | refine ⟨⟨rfl, .inl ⟨rfl, _, _, rfl, rfl⟩⟩, ?_⟩ | refine ⟨⟨rfl, .inr ⟨rfl, rfl, rfl⟩⟩, ?_⟩ | refine ⟨⟨rfl, _, rfl, ?_⟩, ?_⟩ | refine ⟨?_, ?_⟩)) rfl rfl)
  · repeat' (first | with_reducible refine vw_seq ?_ | ((with_reducible refine vl_id ?_); first | fail | refine vs_x ?_ | fail | refine vs_p ?_ | refine vs_bs0 ?_ | refine vs_eqnil (fun _ _ => ?_) | refine vs_nenil (fun _ _ => ?_) | ((fail_if_success (refine vs_lit ?_)); first | (refine vs_case ?_ ?_ <;> intro _ <;> (try (exfalso; omega))) | (refine vs_caseb ?_ ?_ <;> intro _))) | ((with_reducible refine vd_id ?_); first | with_reducible refine vd_done ?_ | fail | refine vd_q ?_ | refine vd_rp ?_ | refine vd_rp ?_ (h := r_bs0) | refine vd_r ?_ (h := r_bs0) | refine vd_rs ?_ | refine vd_r ?_ | refine vd_appp ?_ | refine vd_appzp ?_ | refine vd_app ?_ | refine vd_appz ?_ | refine vd_store ?_ | refine vd_storez ?_ | refine vd_skip ?_ | fail | ((fail_if_success (refine vd_lit ?_)); (refine vd_case ?_ ?_ <;> intro hg <;> (first | (exfalso; (try simp only [decide_eq_true_eq, decide_eq_false_iff_not] at hg); omega) | rw [hg])))) | ((with_reducible refine vw_drid ?_); first | fail | refine vw_drawx ?_) | ((with_reducible refine vw_cid ?_); first | refine vw_condt ?_ | refine vw_condf ?_ | (refine vw_cp ?_ ?_ <;> intro _ <;> (try (exfalso; omega))) | (refine vw_cb ?_ ?_ <;> intro _)) | ((with_reducible refine rt_id ?_); first | refine rt_o ?_ | refine rt_a ?_) | ((with_reducible refine rt_idp ?_); refine rt_pan rfl ?_) | ((with_reducible refine rc_id ?_); refine rc_ret ?_) | ((with_reducible refine nx_tryid ?_); refine nx_try ?_) | ((with_reducible refine nx_resid ?_); refine nx_res ?_) | with_reducible (refine NX.go ?_; constructor) | with_reducible refine nx_blkx rfl ?_ | with_reducible refine nx_blky rfl ?_ | ((with_reducible refine nx_mkid ?_); refine nx_mk ?_) | ((with_reducible refine nx_asgid ?_); refine nx_asg ?_) | ((with_reducible refine nx_rndid ?_); first | refine nx_rnd (by assumption) ?_ | refine nx_rnde ?_ | refine nx_rndr ?_) | ((with_reducible refine nx_rngid ?_); first | refine nx_rng (by assumption) ?_ | refine nx_rngj ?_ | refine nx_rngp ?_) | fail)
    rw [hi.2, show (inD l).length - i = 0 by omega]; rfl
theorem contains_i {f : FuncId} {ca : List D} (l : List Int) (p : Nat → Bool) (hcall : ∀ i n, l[i]? = some n → VP Try.prog f (.lit (.int .i64 n) :: ca) (· = .ret (.lit (.bool (p i))))) [DLs ca ca] :
    VP Try.prog 72 [.sl false false (inD l), .fn f [] ca] (· = .ret (.lit (.bool (decide (0 ≤ idxF p 0 (inD l).length))))) := by
  haveI : DLss (inD l) (inD l) := dlss_of fun x hx => by obtain ⟨n, _, rfl⟩ := List.mem_map.1 hx; infer_instance
  refine vp_of Try.func72 rfl Try.ntmps72 rfl Try.results72 fun B => ?_
  repeat' (first | with_reducible refine vw_seq ?_ | ((with_reducible refine vl_id ?_); first | fail | refine vs_x ?_ | ((with_reducible refine vl_id ?_); refine vq_l (index_i l p hcall) ?_; first | refine vs_call (index_i l p hcall) ?_ | refine vs_pan (index_i l p hcall) ?_ | refine vs_lentp (index_i l p hcall) ?_) | ((with_reducible refine vd_id ?_); refine vq_d (index_i l p hcall) ?_; first | refine vd_ret (index_i l p hcall) ?_ | refine vd_ownp (index_i l p hcall) ?_ | refine vd_own (index_i l p hcall) ?_ | refine vd_lent (index_i l p hcall) ?_) | refine vs_p ?_ | refine vs_bs0 ?_ | refine vs_eqnil (fun _ _ => ?_) | refine vs_nenil (fun _ _ => ?_) | ((fail_if_success (refine vs_lit ?_)); first | (refine vs_case ?_ ?_ <;> intro _ <;> (try (exfalso; omega))) | (refine vs_caseb ?_ ?_ <;> intro _))) | ((with_reducible refine vd_id ?_); first | with_reducible refine vd_done ?_ | fail | refine vd_q ?_ | refine vd_rp ?_ | refine vd_rp ?_ (h := r_bs0) | refine vd_r ?_ (h := r_bs0) | refine vd_rs ?_ | refine vd_r ?_ | refine vd_appp ?_ | refine vd_appzp ?_ | refine vd_app ?_ | refine vd_appz ?_ | refine vd_store ?_ | refine vd_storez ?_ | refine vd_skip ?_ | ((with_reducible refine vl_id ?_); refine vq_l (index_i l p hcall) ?_; first | refine vs_call (index_i l p hcall) ?_ | refine vs_pan (index_i l p hcall) ?_ | refine vs_lentp (index_i l p hcall) ?_) | ((with_reducible refine vd_id ?_); refine vq_d (index_i l p hcall) ?_; first | refine vd_ret (index_i l p hcall) ?_ | refine vd_ownp (index_i l p hcall) ?_ | refine vd_own (index_i l p hcall) ?_ | refine vd_lent (index_i l p hcall) ?_) | ((fail_if_success (refine vd_lit ?_)); (refine vd_case ?_ ?_ <;> intro hg <;> (first | (exfalso; (try simp only [decide_eq_true_eq, decide_eq_false_iff_not] at hg); omega) | rw [hg])))) | ((with_reducible refine vw_drid ?_); first | fail | refine vw_drawx ?_) | ((with_reducible refine vw_cid ?_); first | refine vw_condt ?_ | refine vw_condf ?_ | (refine vw_cp ?_ ?_ <;> intro _ <;> (try (exfalso; omega))) | (refine vw_cb ?_ ?_ <;> intro _)) | ((with_reducible refine rt_id ?_); first | refine rt_o ?_ | refine rt_a ?_) | ((with_reducible refine rt_idp ?_); refine rt_pan rfl ?_) | ((with_reducible refine rc_id ?_); refine rc_ret ?_) | ((with_reducible refine nx_tryid ?_); refine nx_try ?_) | ((with_reducible refine nx_resid ?_); refine nx_res ?_) | with_reducible (refine NX.go ?_; constructor) | with_reducible refine nx_blkx rfl ?_ | with_reducible refine nx_blky rfl ?_ | ((with_reducible refine nx_mkid ?_); refine nx_mk ?_) | ((with_reducible refine nx_asgid ?_); refine nx_asg ?_) | ((with_reducible refine nx_rndid ?_); first | refine nx_rnd (by assumption) ?_ | refine nx_rnde ?_ | refine nx_rndr ?_) | ((with_reducible refine nx_rngid ?_); first | refine nx_rng (by assumption) ?_ | refine nx_rngj ?_ | refine nx_rngp ?_) | fail)
  all_goals rfl
theorem all1_i {f : FuncId} {ca : List D} {n : Int} {p : Bool} (hcall : VP Try.prog f (.lit (.int .i64 n) :: ca) (· = .ret (.lit (.bool p)))) [DLs ca ca] :
    VP Try.prog 73 [.lit (.int .i64 n), .pt [.fn f [] ca]] (· = .ret (.lit (.bool (!p)))) := by
  refine vp_of Try.func73 rfl Try.ntmps73 rfl Try.results73 fun B => ?_
  repeat' (first | with_reducible refine vw_seq ?_ | ((with_reducible refine vl_id ?_); first | fail | refine vs_x ?_ | ((with_reducible refine vl_id ?_); refine vq_l (hcall) ?_; first | refine vs_call (hcall) ?_ | refine vs_pan (hcall) ?_ | refine vs_lentp (hcall) ?_) | ((with_reducible refine vd_id ?_); refine vq_d (hcall) ?_; first | refine vd_ret (hcall) ?_ | refine vd_ownp (hcall) ?_ | refine vd_own (hcall) ?_ | refine vd_lent (hcall) ?_) | refine vs_p ?_ | refine vs_bs0 ?_ | refine vs_eqnil (fun _ _ => ?_) | refine vs_nenil (fun _ _ => ?_) | ((fail_if_success (refine vs_lit ?_)); first | (refine vs_case ?_ ?_ <;> intro _ <;> (try (exfalso; omega))) | (refine vs_caseb ?_ ?_ <;> intro _))) | ((with_reducible refine vd_id ?_); first | with_reducible refine vd_done ?_ | fail | refine vd_q ?_ | refine vd_rp ?_ | refine vd_rp ?_ (h := r_bs0) | refine vd_r ?_ (h := r_bs0) | refine vd_rs ?_ | refine vd_r ?_ | refine vd_appp ?_ | refine vd_appzp ?_ | refine vd_app ?_ | refine vd_appz ?_ | refine vd_store ?_ | refine vd_storez ?_ | refine vd_skip ?_ | ((with_reducible refine vl_id ?_); refine vq_l (hcall) ?_; first | refine vs_call (hcall) ?_ | refine vs_pan (hcall) ?_ | refine vs_lentp (hcall) ?_) | ((with_reducible refine vd_id ?_); refine vq_d (hcall) ?_; first | refine vd_ret (hcall) ?_ | refine vd_ownp (hcall) ?_ | refine vd_own (hcall) ?_ | refine vd_lent (hcall) ?_) | ((fail_if_success (refine vd_lit ?_)); (refine vd_case ?_ ?_ <;> intro hg <;> (first | (exfalso; (try simp only [decide_eq_true_eq, decide_eq_false_iff_not] at hg); omega) | rw [hg])))) | ((with_reducible refine vw_drid ?_); first | fail | refine vw_drawx ?_) | ((with_reducible refine vw_cid ?_); first | refine vw_condt ?_ | refine vw_condf ?_ | (refine vw_cp ?_ ?_ <;> intro _ <;> (try (exfalso; omega))) | (refine vw_cb ?_ ?_ <;> intro _)) | ((with_reducible refine rt_id ?_); first | refine rt_o ?_ | refine rt_a ?_) | ((with_reducible refine rt_idp ?_); refine rt_pan rfl ?_) | ((with_reducible refine rc_id ?_); refine rc_ret ?_) | ((with_reducible refine nx_tryid ?_); refine nx_try ?_) | ((with_reducible refine nx_resid ?_); refine nx_res ?_) | with_reducible (refine NX.go ?_; constructor) | with_reducible refine nx_blkx rfl ?_ | with_reducible refine nx_blky rfl ?_ | ((with_reducible refine nx_mkid ?_); refine nx_mk ?_) | ((with_reducible refine nx_asgid ?_); refine nx_asg ?_) | ((with_reducible refine nx_rndid ?_); first | refine nx_rnd (by assumption) ?_ | refine nx_rnde ?_ | refine nx_rndr ?_) | ((with_reducible refine nx_rngid ?_); first | refine nx_rng (by assumption) ?_ | refine nx_rngj ?_ | refine nx_rngp ?_) | fail)
  all_goals rfl
theorem all_i {f : FuncId} {ca : List D} (l : List Int) (p : Nat → Bool) (hcall : ∀ i n, l[i]? = some n → VP Try.prog f (.lit (.int .i64 n) :: ca) (· = .ret (.lit (.bool (p i))))) [DLs ca ca] :
    VP Try.prog 57 [.sl false false (inD l), .fn f [] ca] (· = .ret (.lit (.bool (decide (∀ i, i < l.length → p i = true))))) := by
  haveI : DLss (inD l) (inD l) := dlss_of fun x hx => by obtain ⟨n, _, rfl⟩ := List.mem_map.1 hx; infer_instance
  refine vp_of Try.func57 rfl Try.ntmps57 rfl Try.results57 fun B => ?_
  repeat' (first | with_reducible refine vw_seq ?_ | ((with_reducible refine vl_id ?_); first | fail | refine vs_x ?_ | ((with_reducible refine vl_id ?_); refine vq_l (contains_i (ca := [.pt [.fn f [] ca]]) l (fun i => !p i) (fun i n hn => all1_i (hcall i n hn))) ?_; first | refine vs_call (contains_i (ca := [.pt [.fn f [] ca]]) l (fun i => !p i) (fun i n hn => all1_i (hcall i n hn))) ?_ | refine vs_pan (contains_i (ca := [.pt [.fn f [] ca]]) l (fun i => !p i) (fun i n hn => all1_i (hcall i n hn))) ?_ | refine vs_lentp (contains_i (ca := [.pt [.fn f [] ca]]) l (fun i => !p i) (fun i n hn => all1_i (hcall i n hn))) ?_) | ((with_reducible refine vd_id ?_); refine vq_d (contains_i (ca := [.pt [.fn f [] ca]]) l (fun i => !p i) (fun i n hn => all1_i (hcall i n hn))) ?_; first | refine vd_ret (contains_i (ca := [.pt [.fn f [] ca]]) l (fun i => !p i) (fun i n hn => all1_i (hcall i n hn))) ?_ | refine vd_ownp (contains_i (ca := [.pt [.fn f [] ca]]) l (fun i => !p i) (fun i n hn => all1_i (hcall i n hn))) ?_ | refine vd_own (contains_i (ca := [.pt [.fn f [] ca]]) l (fun i => !p i) (fun i n hn => all1_i (hcall i n hn))) ?_ | refine vd_lent (contains_i (ca := [.pt [.fn f [] ca]]) l (fun i => !p i) (fun i n hn => all1_i (hcall i n hn))) ?_) | refine vs_p ?_ | refine vs_bs0 ?_ | refine vs_eqnil (fun _ _ => ?_) | refine vs_nenil (fun _ _ => ?_) | ((fail_if_success (refine vs_lit ?_)); first | (refine vs_case ?_ ?_ <;> intro _ <;> (try (exfalso; omega))) | (refine vs_caseb ?_ ?_ <;> intro _))) | ((with_reducible refine vd_id ?_); first | with_reducible refine vd_done ?_ | fail | refine vd_q ?_ | refine vd_rp ?_ | refine vd_rp ?_ (h := r_bs0) | refine vd_r ?_ (h := r_bs0) | refine vd_rs ?_ | refine vd_r ?_ | refine vd_appp ?_ | refine vd_appzp ?_ | refine vd_app ?_ | refine vd_appz ?_ | refine vd_store ?_ | refine vd_storez ?_ | refine vd_skip ?_ | ((with_reducible refine vl_id ?_); refine vq_l (contains_i (ca := [.pt [.fn f [] ca]]) l (fun i => !p i) (fun i n hn => all1_i (hcall i n hn))) ?_; first | refine vs_call (contains_i (ca := [.pt [.fn f [] ca]]) l (fun i => !p i) (fun i n hn => all1_i (hcall i n hn))) ?_ | refine vs_pan (contains_i (ca := [.pt [.fn f [] ca]]) l (fun i => !p i) (fun i n hn => all1_i (hcall i n hn))) ?_ | refine vs_lentp (contains_i (ca := [.pt [.fn f [] ca]]) l (fun i => !p i) (fun i n hn => all1_i (hcall i n hn))) ?_) | ((with_reducible refine vd_id ?_); refine vq_d (contains_i (ca := [.pt [.fn f [] ca]]) l (fun i => !p i) (fun i n hn => all1_i (hcall i n hn))) ?_; first | refine vd_ret (contains_i (ca := [.pt [.fn f [] ca]]) l (fun i => !p i) (fun i n hn => all1_i (hcall i n hn))) ?_ | refine vd_ownp (contains_i (ca := [.pt [.fn f [] ca]]) l (fun i => !p i) (fun i n hn => all1_i (hcall i n hn))) ?_ | refine vd_own (contains_i (ca := [.pt [.fn f [] ca]]) l (fun i => !p i) (fun i n hn => all1_i (hcall i n hn))) ?_ | refine vd_lent (contains_i (ca := [.pt [.fn f [] ca]]) l (fun i => !p i) (fun i n hn => all1_i (hcall i n hn))) ?_) | ((fail_if_success (refine vd_lit ?_)); (refine vd_case ?_ ?_ <;> intro hg <;> (first | (exfalso; (try simp only [decide_eq_true_eq, decide_eq_false_iff_not] at hg); omega) | rw [hg])))) | ((with_reducible refine vw_drid ?_); first | fail | refine vw_drawx ?_) | ((with_reducible refine vw_cid ?_); first | refine vw_condt ?_ | refine vw_condf ?_ | (refine vw_cp ?_ ?_ <;> intro _ <;> (try (exfalso; omega))) | (refine vw_cb ?_ ?_ <;> intro _)) | ((with_reducible refine rt_id ?_); first | refine rt_o ?_ | refine rt_a ?_) | ((with_reducible refine rt_idp ?_); refine rt_pan rfl ?_) | ((with_reducible refine rc_id ?_); refine rc_ret ?_) | ((with_reducible refine nx_tryid ?_); refine nx_try ?_) | ((with_reducible refine nx_resid ?_); refine nx_res ?_) | with_reducible (refine NX.go ?_; constructor) | with_reducible refine nx_blkx rfl ?_ | with_reducible refine nx_blky rfl ?_ | ((with_reducible refine nx_mkid ?_); refine nx_mk ?_) | ((with_reducible refine nx_asgid ?_); refine nx_asg ?_) | ((with_reducible refine nx_rndid ?_); first | refine nx_rnd (by assumption) ?_ | refine nx_rnde ?_ | refine nx_rndr ?_) | ((with_reducible refine nx_rngid ?_); first | refine nx_rng (by assumption) ?_ | refine nx_rngj ?_ | refine nx_rngp ?_) | fail)
  all_goals (have hb : (decide (¬ 0 ≤ idxF (fun i => !p i) 0 (inD l).length)) = decide (∀ i, i < l.length → p i = true) := by rw [Bool.eq_iff_iff]; simp [idxF_neg])
  all_goals rw [hb]
def fits (n : Int) : Bool := decide (n ≤ 4194304) && true
theorem fits_v (n : Int) : VP Try.prog 53 [.lit (.int .i64 n)] (· = .ret (.lit (.bool (fits n)))) := by
  refine vp_of Try.func53 rfl Try.ntmps53 rfl Try.results53 fun B => ?_
  repeat' (first | with_reducible refine vw_seq ?_ | ((with_reducible refine vl_id ?_); first | fail | refine vs_x ?_ | fail | refine vs_p ?_ | refine vs_bs0 ?_ | refine vs_eqnil (fun _ _ => ?_) | refine vs_nenil (fun _ _ => ?_) | ((fail_if_success (refine vs_lit ?_)); first | (refine vs_case ?_ ?_ <;> intro _ <;> (try (exfalso; omega))) | (refine vs_caseb ?_ ?_ <;> intro _))) | ((with_reducible refine vd_id ?_); first | with_reducible refine vd_done ?_ | fail | refine vd_q ?_ | refine vd_rp ?_ | refine vd_rp ?_ (h := r_bs0) | refine vd_r ?_ (h := r_bs0) | refine vd_rs ?_ | refine vd_r ?_ | refine vd_appp ?_ | refine vd_appzp ?_ | refine vd_app ?_ | refine vd_appz ?_ | refine vd_store ?_ | refine vd_storez ?_ | refine vd_skip ?_ | fail | ((fail_if_success (refine vd_lit ?_)); (refine vd_case ?_ ?_ <;> intro hg <;> (first | (exfalso; (try simp only [decide_eq_true_eq, decide_eq_false_iff_not] at hg); omega) | rw [hg])))) | ((with_reducible refine vw_drid ?_); first | fail | refine vw_drawx ?_) | ((with_reducible refine vw_cid ?_); first | refine vw_condt ?_ | refine vw_condf ?_ | (refine vw_cp ?_ ?_ <;> intro _ <;> (try (exfalso; omega))) | (refine vw_cb ?_ ?_ <;> intro _)) | ((with_reducible refine rt_id ?_); first | refine rt_o ?_ | refine rt_a ?_) | ((with_reducible refine rt_idp ?_); refine rt_pan rfl ?_) | ((with_reducible refine rc_id ?_); refine rc_ret ?_) | ((with_reducible refine nx_tryid ?_); refine nx_try ?_) | ((with_reducible refine nx_resid ?_); refine nx_res ?_) | with_reducible (refine NX.go ?_; constructor) | with_reducible refine nx_blkx rfl ?_ | with_reducible refine nx_blky rfl ?_ | ((with_reducible refine nx_mkid ?_); refine nx_mk ?_) | ((with_reducible refine nx_asgid ?_); refine nx_asg ?_) | ((with_reducible refine nx_rndid ?_); first | refine nx_rnd (by assumption) ?_ | refine nx_rnde ?_ | refine nx_rndr ?_) | ((with_reducible refine nx_rngid ?_); first | refine nx_rng (by assumption) ?_ | refine nx_rngj ?_ | refine nx_rngp ?_) | fail)
  all_goals simp [fits]
theorem fits4_v (s : S4) : VP Try.prog 57 [.sl false false [[.lit (.int .i64 s.a)], [.lit (.int .i64 s.b)], [.lit (.int .i64 s.c)], [.lit (.int .i64 s.d)]], .fn 53 [] []] (· = .ret (.lit (.bool (fits s.a && fits s.b && fits s.c && fits s.d)))) := by
  refine (all_i [s.a, s.b, s.c, s.d] (fun i => match [s.a, s.b, s.c, s.d][i]? with | some n => fits n | none => true) fun i n hn => by simp only [hn]; exact fits_v n).mono ?_
  rintro r rfl
  congr 3
  rw [Bool.eq_iff_iff]
  simp only [decide_eq_true_eq, Bool.and_eq_true]
  constructor
  · intro h; exact ⟨⟨⟨h 0 (by simp), h 1 (by simp)⟩, h 2 (by simp)⟩, h 3 (by simp)⟩
  · rintro ⟨⟨⟨h0, h1⟩, h2⟩, h3⟩ i hi
    match i, hi with
    | 0, _ => exact h0
    | 1, _ => exact h1
    | 2, _ => exact h2
    | 3, _ => exact h3
def mayD (o : DOp) : Bool := mayOp o.k o.f o.b.length
theorem may_d (o : DOp) : VP Try.prog 56 [.agg (opD o)] (· = .ret (.lit (.bool (mayD o)))) := by
  have := may_v o.k o.f (byD o.b)
  rw [byD_len] at this
  exact this
theorem opD_len (o : DOp) : (opD o).length = 3 := rfl
theorem alls_v (l : List DOp) : VP Try.prog 55 [.sl false false (l.map opD), .fn 56 [] []] (· = .ret (.lit (.bool (l.all mayD)))) := by
  refine (all_v (l.map opD) (fun x hx => by obtain ⟨o, _, rfl⟩ := List.mem_map.1 hx; rfl) (fun i => match l[i]? with | some o => mayD o | none => true) (fun i x hx => ?_) (fun x hx => by obtain ⟨o, _, rfl⟩ := List.mem_map.1 hx; unfold opD; infer_instance)).mono ?_
  · rw [List.getElem?_map, Option.map_eq_some_iff] at hx
    obtain ⟨o, ho, rfl⟩ := hx
    simp only [ho]; exact may_d o
  · rintro r rfl
    congr 3
    rw [Bool.eq_iff_iff]
    simp only [decide_eq_true_eq, List.all_eq_true, List.length_map]
    constructor
    · intro h o ho
      obtain ⟨i, hi, rfl⟩ := List.getElem_of_mem ho
      have := h i hi
      rwa [List.getElem?_eq_getElem hi] at this
    · intro h i hi
      rw [List.getElem?_eq_getElem hi]; exact h _ (List.getElem_mem hi)
end Go.Proofs.Ytjfaihpiohccbaa

namespace Go.Proofs.Ytjfaihpiohccbaa
open Go.RowKit
set_option maxRecDepth 10000
set_option maxHeartbeats 4000000
def flatK (d : Dk) : Bool := isFile d.head && decide (d.waits.length ≤ 4096) && decide (0 ≤ d.fuse) && decide (d.fuse ≤ 4096) && (!d.down || decide (d.fuse = 0))
def stepsOk : S4 → List DOp → Bool
  | _, [] => true
  | s, o :: l => fits ((aft o s).get o.f) && stepsOk (aft o s) l
def fits4 (s : S4) : Bool := fits s.a && fits s.b && fits s.c && fits s.d
def checkB (d : Dk) : Bool := flatK d && d.waits.all mayD && fits4 (sz4 d) && stepsOk (sz4 d) d.waits
theorem aft_in (s : S4) (o : DOp) (hs : s.in) (h : fits ((aft o s).get o.f) = true) (hf : 0 ≤ o.f ∧ o.f < 4) : (aft o s).in := by
  obtain ⟨k, f, b⟩ := o
  simp only [S4.in] at hs
  simp only at hf h
  have h4 : f = 0 ∨ f = 1 ∨ f = 2 ∨ f = 3 := by omega
  rcases h4 with rfl | rfl | rfl | rfl <;> simp [aft, aft1, S4.get, fits, S4.in] at h ⊢ <;> split at h <;> simp_all <;> omega
theorem check_v (d : Dk) (hw : ∀ o ∈ d.waits, o.b.length ≤ 1000000000) : VP Try.prog 24 [.agg (dkD d)] (· = .ret (.lit (.int .i64 (if checkB d then 0 else 320)))) := by
  simp only [dkD]
  refine vp_of Try.func24 rfl Try.ntmps24 rfl Try.results24 fun B => ?_
  refine vw_seq ?_
  repeat' (first | ((with_reducible refine vl_id ?_); first | fail | refine vs_x ?_ | fail | refine vs_p ?_ | refine vs_bs0 ?_ | refine vs_eqnil (fun _ _ => ?_) | refine vs_nenil (fun _ _ => ?_) | ((fail_if_success (refine vs_lit ?_)); first | (refine vs_case ?_ ?_ <;> intro _ <;> (try (exfalso; omega))) | (refine vs_caseb ?_ ?_ <;> intro _))) | ((with_reducible refine vd_id ?_); first | with_reducible refine vd_done ?_ | fail | refine vd_q ?_ | refine vd_rp ?_ | refine vd_rp ?_ (h := r_bs0) | refine vd_r ?_ (h := r_bs0) | refine vd_rs ?_ | refine vd_r ?_ | refine vd_appp ?_ | refine vd_appzp ?_ | refine vd_app ?_ | refine vd_appz ?_ | refine vd_store ?_ | refine vd_storez ?_ | refine vd_skip ?_ | fail | ((fail_if_success (refine vd_lit ?_)); (refine vd_case ?_ ?_ <;> intro hg <;> (first | (exfalso; (try simp only [decide_eq_true_eq, decide_eq_false_iff_not] at hg); omega) | rw [hg])))) | ((with_reducible refine vw_drid ?_); first | fail | refine vw_drawx ?_) | ((with_reducible refine vw_cid ?_); first | refine vw_condt ?_ | refine vw_condf ?_ | (refine vw_cp ?_ ?_ <;> intro _ <;> (try (exfalso; omega))) | (refine vw_cb ?_ ?_ <;> intro _)) | ((with_reducible refine rt_id ?_); first | refine rt_o ?_ | refine rt_a ?_) | ((with_reducible refine rt_idp ?_); refine rt_pan rfl ?_) | ((with_reducible refine rc_id ?_); refine rc_ret ?_) | ((with_reducible refine nx_tryid ?_); refine nx_try ?_) | ((with_reducible refine nx_resid ?_); refine nx_res ?_) | with_reducible (refine NX.go ?_; constructor) | with_reducible refine nx_blkx rfl ?_ | with_reducible refine nx_blky rfl ?_ | ((with_reducible refine nx_mkid ?_); refine nx_mk ?_) | ((with_reducible refine nx_asgid ?_); refine nx_asg ?_) | ((with_reducible refine nx_rndid ?_); first | refine nx_rnd (by assumption) ?_ | refine nx_rnde ?_ | refine nx_rndr ?_) | ((with_reducible refine nx_rngid ?_); first | refine nx_rng (by assumption) ?_ | refine nx_rngj ?_ | refine nx_rngp ?_) | fail)
  refine vw_cut (fun b : Bool => ⟨[(3, .d (.lit (.bool b))), (1, .ptr 0 0)], [.c 0 0 ((dkD d).map .d)], 1⟩) (fun b => b = flatK d) ?_ fun b hb => ?_
  · repeat' (first | with_reducible refine vw_seq ?_ | ((with_reducible refine vl_id ?_); first | fail | refine vs_x ?_ | ((with_reducible refine vl_id ?_); refine vq_l (file_v d.head) ?_; first | refine vs_call (file_v d.head) ?_ | refine vs_pan (file_v d.head) ?_ | refine vs_lentp (file_v d.head) ?_) | ((with_reducible refine vd_id ?_); refine vq_d (file_v d.head) ?_; first | refine vd_ret (file_v d.head) ?_ | refine vd_ownp (file_v d.head) ?_ | refine vd_own (file_v d.head) ?_ | refine vd_lent (file_v d.head) ?_) | refine vs_p ?_ | refine vs_bs0 ?_ | refine vs_eqnil (fun _ _ => ?_) | refine vs_nenil (fun _ _ => ?_) | ((fail_if_success (refine vs_lit ?_)); first | (refine vs_case ?_ ?_ <;> intro _ <;> (try (exfalso; omega))) | (refine vs_caseb ?_ ?_ <;> intro _))) | ((with_reducible refine vd_id ?_); first | with_reducible refine vd_done ?_ | fail | refine vd_q ?_ | refine vd_rp ?_ | refine vd_rp ?_ (h := r_bs0) | refine vd_r ?_ (h := r_bs0) | refine vd_rs ?_ | refine vd_r ?_ | refine vd_appp ?_ | refine vd_appzp ?_ | refine vd_app ?_ | refine vd_appz ?_ | refine vd_store ?_ | refine vd_storez ?_ | refine vd_skip ?_ | ((with_reducible refine vl_id ?_); refine vq_l (file_v d.head) ?_; first | refine vs_call (file_v d.head) ?_ | refine vs_pan (file_v d.head) ?_ | refine vs_lentp (file_v d.head) ?_) | ((with_reducible refine vd_id ?_); refine vq_d (file_v d.head) ?_; first | refine vd_ret (file_v d.head) ?_ | refine vd_ownp (file_v d.head) ?_ | refine vd_own (file_v d.head) ?_ | refine vd_lent (file_v d.head) ?_) | ((fail_if_success (refine vd_lit ?_)); (refine vd_case ?_ ?_ <;> intro hg <;> (first | (exfalso; (try simp only [decide_eq_true_eq, decide_eq_false_iff_not] at hg); omega) | rw [hg])))) | ((with_reducible refine vw_drid ?_); first | fail | refine vw_drawx ?_) | ((with_reducible refine vw_cid ?_); first | refine vw_condt ?_ | refine vw_condf ?_ | (refine vw_cp ?_ ?_ <;> intro _ <;> (try (exfalso; omega))) | (refine vw_cb ?_ ?_ <;> intro _)) | ((with_reducible refine rt_id ?_); first | refine rt_o ?_ | refine rt_a ?_) | ((with_reducible refine rt_idp ?_); refine rt_pan rfl ?_) | ((with_reducible refine rc_id ?_); refine rc_ret ?_) | ((with_reducible refine nx_tryid ?_); refine nx_try ?_) | ((with_reducible refine nx_resid ?_); refine nx_res ?_) | with_reducible (refine NX.go ?_; constructor) | with_reducible refine nx_blkx rfl ?_ | with_reducible refine nx_blky rfl ?_ | ((with_reducible refine nx_mkid ?_); refine nx_mk ?_) | ((with_reducible refine nx_asgid ?_); refine nx_asg ?_) | ((with_reducible refine nx_rndid ?_); first | refine nx_rnd (by assumption) ?_ | refine nx_rnde ?_ | refine nx_rndr ?_) | ((with_reducible refine nx_rngid ?_); first | refine nx_rng (by assumption) ?_ | refine nx_rngj ?_ | refine nx_rngp ?_) | fail)
    all_goals (refine nx_cut _ ?_ (sub_ren [] (by repeat' (first | exact trivial | exact rle_nil | refine rle_cons ?_ ?_ | exact rle_any | exact rle_dd | exact rle_ptr rfl | exact rle_row rfl rfl | exact rle_rowk rfl rfl | refine rle_agg ?_ | refine rle_tup ?_ | refine rle_ifc ?_ | refine rle_fn ?_ ?_ | exact rle_ep | exact rle_sv rfl | exact rle_yl rfl | refine ⟨⟨rfl, _, rfl, ?_⟩, ?_⟩ | exact rle_d rfl (by infer_instance) | refine ⟨⟨_, rfl, ?_⟩, ?_⟩ | refine ⟨⟨rfl, .inl ⟨rfl, _, _, rfl, rfl⟩⟩, ?_⟩ | refine ⟨⟨rfl, .inr ⟨rfl, rfl, rfl⟩⟩, ?_⟩ | refine ⟨⟨rfl, _, rfl, ?_⟩, ?_⟩ | refine ⟨?_, ?_⟩)) (by repeat' (first | exact trivial | exact rle_nil | refine rle_cons ?_ ?_ | exact rle_any | exact rle_dd | exact rle_ptr rfl | exact rle_row rfl rfl | exact rle_rowk rfl rfl | refine rle_agg ?_ | refine rle_tup ?_ | refine rle_ifc ?_ | refine rle_fn ?_ ?_ | exact rle_ep | exact rle_sv rfl | exact rle_yl rfl | refine ⟨⟨rfl, _, rfl, ?_⟩, ?_⟩ | exact rle_d rfl (by infer_instance) | refine ⟨⟨_, rfl, ?_⟩, ?_⟩ | refine ⟨⟨rfl, .inl ⟨rfl, _, _, rfl, rfl⟩⟩, ?_⟩ | refine ⟨⟨rfl, .inr ⟨rfl, rfl, rfl⟩⟩, ?_⟩ | refine ⟨⟨rfl, _, rfl, ?_⟩, ?_⟩ | refine ⟨?_, ?_⟩)) (by repeat' (first | exact trivial | exact rle_nil | refine rle_cons ?_ ?_ | exact rle_any | exact rle_dd | exact rle_ptr rfl | exact rle_row rfl rfl | exact rle_rowk rfl rfl | refine rle_agg ?_ | refine rle_tup ?_ | refine rle_ifc ?_ | refine rle_fn ?_ ?_ | exact rle_ep | exact rle_sv rfl | exact rle_yl rfl | refine ⟨⟨rfl, _, rfl, ?_⟩, ?_⟩ | exact rle_d rfl (by infer_instance) | refine ⟨⟨_, rfl, ?_⟩, ?_⟩ | refine ⟨⟨rfl, .inl ⟨rfl, _, _, rfl, rfl⟩⟩, ?_⟩ | refine ⟨⟨rfl, .inr ⟨rfl, rfl, rfl⟩⟩, ?_⟩ | refine ⟨⟨rfl, _, rfl, ?_⟩, ?_⟩ | refine ⟨?_, ?_⟩)) rfl rfl); (try simp only [List.length_map] at *); simp [flatK, *]; try omega)
  · simp only [dkD]
    subst hb
    refine vw_seq ?_
    repeat' (first | ((with_reducible refine vl_id ?_); first | fail | refine vs_x ?_ | fail | refine vs_p ?_ | refine vs_bs0 ?_ | refine vs_eqnil (fun _ _ => ?_) | refine vs_nenil (fun _ _ => ?_) | ((fail_if_success (refine vs_lit ?_)); first | (refine vs_case ?_ ?_ <;> intro _ <;> (try (exfalso; omega))) | (refine vs_caseb ?_ ?_ <;> intro _))) | ((with_reducible refine vd_id ?_); first | with_reducible refine vd_done ?_ | fail | refine vd_q ?_ | refine vd_rp ?_ | refine vd_rp ?_ (h := r_bs0) | refine vd_r ?_ (h := r_bs0) | refine vd_rs ?_ | refine vd_r ?_ | refine vd_appp ?_ | refine vd_appzp ?_ | refine vd_app ?_ | refine vd_appz ?_ | refine vd_store ?_ | refine vd_storez ?_ | refine vd_skip ?_ | fail | ((fail_if_success (refine vd_lit ?_)); (refine vd_case ?_ ?_ <;> intro hg <;> (first | (exfalso; (try simp only [decide_eq_true_eq, decide_eq_false_iff_not] at hg); omega) | rw [hg])))) | ((with_reducible refine vw_drid ?_); first | fail | refine vw_drawx ?_) | ((with_reducible refine vw_cid ?_); first | refine vw_condt ?_ | refine vw_condf ?_ | (refine vw_cp ?_ ?_ <;> intro _ <;> (try (exfalso; omega))) | (refine vw_cb ?_ ?_ <;> intro _)) | ((with_reducible refine rt_id ?_); first | refine rt_o ?_ | refine rt_a ?_) | ((with_reducible refine rt_idp ?_); refine rt_pan rfl ?_) | ((with_reducible refine rc_id ?_); refine rc_ret ?_) | ((with_reducible refine nx_tryid ?_); refine nx_try ?_) | ((with_reducible refine nx_resid ?_); refine nx_res ?_) | with_reducible (refine NX.go ?_; constructor) | with_reducible refine nx_blkx rfl ?_ | with_reducible refine nx_blky rfl ?_ | ((with_reducible refine nx_mkid ?_); refine nx_mk ?_) | ((with_reducible refine nx_asgid ?_); refine nx_asg ?_) | ((with_reducible refine nx_rndid ?_); first | refine nx_rnd (by assumption) ?_ | refine nx_rnde ?_ | refine nx_rndr ?_) | ((with_reducible refine nx_rngid ?_); first | refine nx_rng (by assumption) ?_ | refine nx_rngj ?_ | refine nx_rngp ?_) | fail)
    refine vw_seq ?_
    repeat' (first | ((with_reducible refine vl_id ?_); first | fail | refine vs_x ?_ | ((with_reducible refine vl_id ?_); refine vq_l (sized_v d) ?_; first | refine vs_call (sized_v d) ?_ | refine vs_pan (sized_v d) ?_ | refine vs_lentp (sized_v d) ?_) | ((with_reducible refine vd_id ?_); refine vq_d (sized_v d) ?_; first | refine vd_ret (sized_v d) ?_ | refine vd_ownp (sized_v d) ?_ | refine vd_own (sized_v d) ?_ | refine vd_lent (sized_v d) ?_) | refine vs_p ?_ | refine vs_bs0 ?_ | refine vs_eqnil (fun _ _ => ?_) | refine vs_nenil (fun _ _ => ?_) | ((fail_if_success (refine vs_lit ?_)); first | (refine vs_case ?_ ?_ <;> intro _ <;> (try (exfalso; omega))) | (refine vs_caseb ?_ ?_ <;> intro _))) | ((with_reducible refine vd_id ?_); first | with_reducible refine vd_done ?_ | fail | refine vd_q ?_ | refine vd_rp ?_ | refine vd_rp ?_ (h := r_bs0) | refine vd_r ?_ (h := r_bs0) | refine vd_rs ?_ | refine vd_r ?_ | refine vd_appp ?_ | refine vd_appzp ?_ | refine vd_app ?_ | refine vd_appz ?_ | refine vd_store ?_ | refine vd_storez ?_ | refine vd_skip ?_ | ((with_reducible refine vl_id ?_); refine vq_l (sized_v d) ?_; first | refine vs_call (sized_v d) ?_ | refine vs_pan (sized_v d) ?_ | refine vs_lentp (sized_v d) ?_) | ((with_reducible refine vd_id ?_); refine vq_d (sized_v d) ?_; first | refine vd_ret (sized_v d) ?_ | refine vd_ownp (sized_v d) ?_ | refine vd_own (sized_v d) ?_ | refine vd_lent (sized_v d) ?_) | ((fail_if_success (refine vd_lit ?_)); (refine vd_case ?_ ?_ <;> intro hg <;> (first | (exfalso; (try simp only [decide_eq_true_eq, decide_eq_false_iff_not] at hg); omega) | rw [hg])))) | ((with_reducible refine vw_drid ?_); first | fail | refine vw_drawx ?_) | ((with_reducible refine vw_cid ?_); first | refine vw_condt ?_ | refine vw_condf ?_ | (refine vw_cp ?_ ?_ <;> intro _ <;> (try (exfalso; omega))) | (refine vw_cb ?_ ?_ <;> intro _)) | ((with_reducible refine rt_id ?_); first | refine rt_o ?_ | refine rt_a ?_) | ((with_reducible refine rt_idp ?_); refine rt_pan rfl ?_) | ((with_reducible refine rc_id ?_); refine rc_ret ?_) | ((with_reducible refine nx_tryid ?_); refine nx_try ?_) | ((with_reducible refine nx_resid ?_); refine nx_res ?_) | with_reducible (refine NX.go ?_; constructor) | with_reducible refine nx_blkx rfl ?_ | with_reducible refine nx_blky rfl ?_ | ((with_reducible refine nx_mkid ?_); refine nx_mk ?_) | ((with_reducible refine nx_asgid ?_); refine nx_asg ?_) | ((with_reducible refine nx_rndid ?_); first | refine nx_rnd (by assumption) ?_ | refine nx_rnde ?_ | refine nx_rndr ?_) | ((with_reducible refine nx_rngid ?_); first | refine nx_rng (by assumption) ?_ | refine nx_rngj ?_ | refine nx_rngp ?_) | fail)
    refine vw_seq ?_
    repeat' (first | with_reducible refine vw_seq ?_ | ((with_reducible refine vl_id ?_); first | fail | refine vs_x ?_ | ((with_reducible refine vl_id ?_); refine vq_l (alls_v d.waits) ?_; first | refine vs_call (alls_v d.waits) ?_ | refine vs_pan (alls_v d.waits) ?_ | refine vs_lentp (alls_v d.waits) ?_) | ((with_reducible refine vd_id ?_); refine vq_d (alls_v d.waits) ?_; first | refine vd_ret (alls_v d.waits) ?_ | refine vd_ownp (alls_v d.waits) ?_ | refine vd_own (alls_v d.waits) ?_ | refine vd_lent (alls_v d.waits) ?_) | ((with_reducible refine vl_id ?_); refine vq_l (fits4_v (sz4 d)) ?_; first | refine vs_call (fits4_v (sz4 d)) ?_ | refine vs_pan (fits4_v (sz4 d)) ?_ | refine vs_lentp (fits4_v (sz4 d)) ?_) | ((with_reducible refine vd_id ?_); refine vq_d (fits4_v (sz4 d)) ?_; first | refine vd_ret (fits4_v (sz4 d)) ?_ | refine vd_ownp (fits4_v (sz4 d)) ?_ | refine vd_own (fits4_v (sz4 d)) ?_ | refine vd_lent (fits4_v (sz4 d)) ?_) | refine vs_p ?_ | refine vs_bs0 ?_ | refine vs_eqnil (fun _ _ => ?_) | refine vs_nenil (fun _ _ => ?_) | ((fail_if_success (refine vs_lit ?_)); first | (refine vs_case ?_ ?_ <;> intro _ <;> (try (exfalso; omega))) | (refine vs_caseb ?_ ?_ <;> intro _))) | ((with_reducible refine vd_id ?_); first | with_reducible refine vd_done ?_ | fail | refine vd_q ?_ | refine vd_rp ?_ | refine vd_rp ?_ (h := r_bs0) | refine vd_r ?_ (h := r_bs0) | refine vd_rs ?_ | refine vd_r ?_ | refine vd_appp ?_ | refine vd_appzp ?_ | refine vd_app ?_ | refine vd_appz ?_ | refine vd_store ?_ | refine vd_storez ?_ | refine vd_skip ?_ | ((with_reducible refine vl_id ?_); refine vq_l (alls_v d.waits) ?_; first | refine vs_call (alls_v d.waits) ?_ | refine vs_pan (alls_v d.waits) ?_ | refine vs_lentp (alls_v d.waits) ?_) | ((with_reducible refine vd_id ?_); refine vq_d (alls_v d.waits) ?_; first | refine vd_ret (alls_v d.waits) ?_ | refine vd_ownp (alls_v d.waits) ?_ | refine vd_own (alls_v d.waits) ?_ | refine vd_lent (alls_v d.waits) ?_) | ((with_reducible refine vl_id ?_); refine vq_l (fits4_v (sz4 d)) ?_; first | refine vs_call (fits4_v (sz4 d)) ?_ | refine vs_pan (fits4_v (sz4 d)) ?_ | refine vs_lentp (fits4_v (sz4 d)) ?_) | ((with_reducible refine vd_id ?_); refine vq_d (fits4_v (sz4 d)) ?_; first | refine vd_ret (fits4_v (sz4 d)) ?_ | refine vd_ownp (fits4_v (sz4 d)) ?_ | refine vd_own (fits4_v (sz4 d)) ?_ | refine vd_lent (fits4_v (sz4 d)) ?_) | ((fail_if_success (refine vd_lit ?_)); (refine vd_case ?_ ?_ <;> intro hg <;> (first | (exfalso; (try simp only [decide_eq_true_eq, decide_eq_false_iff_not] at hg); omega) | rw [hg])))) | ((with_reducible refine vw_drid ?_); first | fail | refine vw_drawx ?_) | ((with_reducible refine vw_cid ?_); first | refine vw_condt ?_ | refine vw_condf ?_ | (refine vw_cp ?_ ?_ <;> intro _ <;> (try (exfalso; omega))) | (refine vw_cb ?_ ?_ <;> intro _)) | ((with_reducible refine rt_id ?_); first | refine rt_o ?_ | refine rt_a ?_) | ((with_reducible refine rt_idp ?_); refine rt_pan rfl ?_) | ((with_reducible refine rc_id ?_); refine rc_ret ?_) | ((with_reducible refine nx_tryid ?_); refine nx_try ?_) | ((with_reducible refine nx_resid ?_); refine nx_res ?_) | with_reducible (refine NX.go ?_; constructor) | with_reducible refine nx_blkx rfl ?_ | with_reducible refine nx_blky rfl ?_ | ((with_reducible refine nx_mkid ?_); refine nx_mk ?_) | ((with_reducible refine nx_asgid ?_); refine nx_asg ?_) | ((with_reducible refine nx_rndid ?_); first | refine nx_rnd (by assumption) ?_ | refine nx_rnde ?_ | refine nx_rndr ?_) | ((with_reducible refine nx_rngid ?_); first | refine nx_rng (by assumption) ?_ | refine nx_rngj ?_ | refine nx_rngp ?_) | fail)
    · rename_i h1; rw [show checkB d = false by simp at h1; simp [checkB, h1]]; rfl
    · rename_i h1 h2; rw [show checkB d = false by have h2 : d.waits.all mayD = false := by simpa using h2
                                                   simp [checkB, h2]]; rfl
    · rename_i h1 h2 h3; rw [show checkB d = false by have h3 : fits4 (sz4 d) = false := by unfold fits4; simpa only [Bool.not_eq_true'] using h3
                                                      simp [checkB, h3]]; rfl
    rename_i h1 h2 h3
    have h1 : flatK d = true := by simpa using h1
    have h2 : d.waits.all mayD = true := by simpa using h2
    have h3 : fits4 (sz4 d) = true := by simpa [fits4] using h3
    have hin : (sz4 d).in := by simp [fits4, fits] at h3; simp [S4.in, sz4] at h3 ⊢; omega
    have hck : checkB d = stepsOk (sz4 d) d.waits := by simp [checkB, h1, h2, h3]
    rw [hck]
    refine vw_len 54 rfl fun hlen => ?_
    refine vw_loop (fun z : Nat × S4 => ⟨[(56, .d (.lit (.int .i64 z.1))), (55, .d (.lit (.int .i64 (d.waits.map opD).length))), (54, .d (.sl false false (d.waits.map opD))), (5, .ptr 1 0), (4, .fn (.func 53) [] [])], [.c 1 0 ((szD z.2).map .d)], 2⟩)
      (fun z => z.1 ≤ d.waits.length ∧ z.2.in ∧ stepsOk (sz4 d) d.waits = stepsOk z.2 (d.waits.drop z.1)) (fun z => d.waits.length - z.1) (0, sz4 d) (sub_ren [] (by repeat' (first | exact trivial | exact rle_nil | refine rle_cons ?_ ?_ | exact rle_any | exact rle_dd | exact rle_ptr rfl | exact rle_row rfl rfl | exact rle_rowk rfl rfl | refine rle_agg ?_ | refine rle_tup ?_ | refine rle_ifc ?_ | refine rle_fn ?_ ?_ | exact rle_ep | exact rle_sv rfl | exact rle_yl rfl | refine ⟨⟨rfl, _, rfl, ?_⟩, ?_⟩ | exact rle_d rfl (by infer_instance) | refine ⟨⟨_, rfl, ?_⟩, ?_⟩ | refine ⟨⟨rfl, .inl ⟨rfl, _, _, rfl, rfl⟩⟩, ?_⟩ | refine ⟨⟨rfl, .inr ⟨rfl, rfl, rfl⟩⟩, ?_⟩ | refine ⟨⟨rfl, _, rfl, ?_⟩, ?_⟩ | refine ⟨?_, ?_⟩)) (by repeat' (first | exact trivial | exact rle_nil | refine rle_cons ?_ ?_ | exact rle_any | exact rle_dd | exact rle_ptr rfl | exact rle_row rfl rfl | exact rle_rowk rfl rfl | refine rle_agg ?_ | refine rle_tup ?_ | refine rle_ifc ?_ | refine rle_fn ?_ ?_ | exact rle_ep | exact rle_sv rfl | exact rle_yl rfl | refine ⟨⟨rfl, _, rfl, ?_⟩, ?_⟩ | exact rle_d rfl (by infer_instance) | refine ⟨⟨_, rfl, ?_⟩, ?_⟩ | refine ⟨⟨rfl, .inl ⟨rfl, _, _, rfl, rfl⟩⟩, ?_⟩ | refine ⟨⟨rfl, .inr ⟨rfl, rfl, rfl⟩⟩, ?_⟩ | refine ⟨⟨rfl, _, rfl, ?_⟩, ?_⟩ | refine ⟨?_, ?_⟩)) (by repeat' (first | exact trivial | exact rle_nil | refine rle_cons ?_ ?_ | exact rle_any | exact rle_dd | exact rle_ptr rfl | exact rle_row rfl rfl | exact rle_rowk rfl rfl | refine rle_agg ?_ | refine rle_tup ?_ | refine rle_ifc ?_ | refine rle_fn ?_ ?_ | exact rle_ep | exact rle_sv rfl | exact rle_yl rfl | refine ⟨⟨rfl, _, rfl, ?_⟩, ?_⟩ | exact rle_d rfl (by infer_instance) | refine ⟨⟨_, rfl, ?_⟩, ?_⟩ | refine ⟨⟨rfl, .inl ⟨rfl, _, _, rfl, rfl⟩⟩, ?_⟩ | refine ⟨⟨rfl, .inr ⟨rfl, rfl, rfl⟩⟩, ?_⟩ | refine ⟨⟨rfl, _, rfl, ?_⟩, ?_⟩ | refine ⟨?_, ?_⟩)) rfl rfl) ⟨Nat.zero_le _, hin, rfl⟩ fun z hz => ?_
    obtain ⟨i, s⟩ := z
    simp only at hz
    rcases Nat.lt_or_ge i d.waits.length with h | h
    · have ho : d.waits[i]? = some d.waits[i] := List.getElem?_eq_getElem h
      have hm := List.all_eq_true.1 h2 _ (List.getElem_mem h)
      have hl := hw _ (List.getElem_mem h)
      have hdrop : d.waits.drop i = d.waits[i] :: d.waits.drop (i + 1) := List.drop_eq_getElem_cons h
      generalize d.waits[i] = o at *
      have hx' : (d.waits.map opD)[((i : Nat) : Int).toNat]? = some (opD o) := by simp [ho]
      have hlt : (i : Int) < ((d.waits.map opD).length : Int) := by simpa using h
      have hf : 0 ≤ o.f ∧ o.f < 4 := by simp [mayD, mayOp, isFile] at hm; omega
      have haf := after_v s o hz.2.1 hf (by omega)
      obtain ⟨k, f, b⟩ := o
      simp only at hf
      have h4 : f = 0 ∨ f = 1 ∨ f = 2 ∨ f = 3 := by omega
      rcases h4 with rfl | rfl | rfl | rfl
      all_goals
        simp only [opD] at hx' haf
        repeat' (first | with_reducible refine vw_seq ?_ | ((with_reducible refine vl_id ?_); first | fail | refine vs_x ?_ | ((with_reducible refine vl_id ?_); refine vq_l (haf) ?_; first | refine vs_call (haf) ?_ | refine vs_pan (haf) ?_ | refine vs_lentp (haf) ?_) | ((with_reducible refine vd_id ?_); refine vq_d (haf) ?_; first | refine vd_ret (haf) ?_ | refine vd_ownp (haf) ?_ | refine vd_own (haf) ?_ | refine vd_lent (haf) ?_) | refine vs_call (fits_v _) ?_ | refine vs_pan (fits_v _) ?_ | refine vd_ret (fits_v _) ?_ | refine vd_ownp (fits_v _) ?_ | refine vd_own (fits_v _) ?_ | refine vs_lentp (fits_v _) ?_ | refine vd_lent (fits_v _) ?_ | refine vs_p ?_ | refine vs_bs0 ?_ | refine vs_eqnil (fun _ _ => ?_) | refine vs_nenil (fun _ _ => ?_) | ((fail_if_success (refine vs_lit ?_)); first | (refine vs_case ?_ ?_ <;> intro _ <;> (try (exfalso; omega))) | (refine vs_caseb ?_ ?_ <;> intro _))) | ((with_reducible refine vd_id ?_); first | with_reducible refine vd_done ?_ | fail | refine vd_q ?_ | refine vd_rp ?_ | refine vd_rp ?_ (h := r_bs0) | refine vd_r ?_ (h := r_bs0) | refine vd_rs ?_ | refine vd_r ?_ | refine vd_appp ?_ | refine vd_appzp ?_ | refine vd_app ?_ | refine vd_appz ?_ | refine vd_store ?_ | refine vd_storez ?_ | refine vd_skip ?_ | ((with_reducible refine vl_id ?_); refine vq_l (haf) ?_; first | refine vs_call (haf) ?_ | refine vs_pan (haf) ?_ | refine vs_lentp (haf) ?_) | ((with_reducible refine vd_id ?_); refine vq_d (haf) ?_; first | refine vd_ret (haf) ?_ | refine vd_ownp (haf) ?_ | refine vd_own (haf) ?_ | refine vd_lent (haf) ?_) | refine vs_call (fits_v _) ?_ | refine vs_pan (fits_v _) ?_ | refine vd_ret (fits_v _) ?_ | refine vd_ownp (fits_v _) ?_ | refine vd_own (fits_v _) ?_ | refine vs_lentp (fits_v _) ?_ | refine vd_lent (fits_v _) ?_ | ((fail_if_success (refine vd_lit ?_)); (refine vd_case ?_ ?_ <;> intro hg <;> (first | (exfalso; (try simp only [decide_eq_true_eq, decide_eq_false_iff_not] at hg); omega) | rw [hg])))) | ((with_reducible refine vw_drid ?_); first | fail | refine vw_drawx ?_) | ((with_reducible refine vw_cid ?_); first | refine vw_condt ?_ | refine vw_condf ?_ | (refine vw_cp ?_ ?_ <;> intro _ <;> (try (exfalso; omega))) | (refine vw_cb ?_ ?_ <;> intro _)) | ((with_reducible refine rt_id ?_); first | refine rt_o ?_ | refine rt_a ?_) | ((with_reducible refine rt_idp ?_); refine rt_pan rfl ?_) | ((with_reducible refine rc_id ?_); refine rc_ret ?_) | ((with_reducible refine nx_tryid ?_); refine nx_try ?_) | ((with_reducible refine nx_resid ?_); refine nx_res ?_) | with_reducible (refine NX.go ?_; constructor) | with_reducible refine nx_blkx rfl ?_ | with_reducible refine nx_blky rfl ?_ | ((with_reducible refine nx_mkid ?_); refine nx_mk ?_) | ((with_reducible refine nx_asgid ?_); refine nx_asg ?_) | ((with_reducible refine nx_rndid ?_); first | refine nx_rnd (by assumption) ?_ | refine nx_rnde ?_ | refine nx_rndr ?_) | ((with_reducible refine nx_rngid ?_); first | refine nx_rng (by assumption) ?_ | refine nx_rngj ?_ | refine nx_rngp ?_) | fail)
      all_goals first | (rw [hz.2.2, hdrop]; simp_all [stepsOk, S4.get]; done) | skip
      all_goals rename_i hfit
      · have hg : fits ((aft ⟨k, 0, b⟩ s).get 0) = true := by simpa [S4.get] using hfit
        exact nx_loop (i + 1, aft ⟨k, 0, b⟩ s) ⟨by simp only; omega, aft_in s _ hz.2.1 hg (by simp), by rw [hz.2.2, hdrop]; simp [stepsOk, hg]⟩ (by simp only; omega) (sub_ren [] (by repeat' (first | exact trivial | exact rle_nil | refine rle_cons ?_ ?_ | exact rle_any | exact rle_dd | exact rle_ptr rfl | exact rle_row rfl rfl | exact rle_rowk rfl rfl | refine rle_agg ?_ | refine rle_tup ?_ | refine rle_ifc ?_ | refine rle_fn ?_ ?_ | exact rle_ep | exact rle_sv rfl | exact rle_yl rfl | refine ⟨⟨rfl, _, rfl, ?_⟩, ?_⟩ | exact rle_d rfl (by infer_instance) | refine ⟨⟨_, rfl, ?_⟩, ?_⟩ | refine ⟨⟨rfl, .inl ⟨rfl, _, _, rfl, rfl⟩⟩, ?_⟩ | refine ⟨⟨rfl, .inr ⟨rfl, rfl, rfl⟩⟩, ?_⟩ | refine ⟨⟨rfl, _, rfl, ?_⟩, ?_⟩ | refine ⟨?_, ?_⟩)) (by repeat' (first | exact trivial | exact rle_nil | refine rle_cons ?_ ?_ | exact rle_any | exact rle_dd | exact rle_ptr rfl | exact rle_row rfl rfl | exact rle_rowk rfl rfl | refine rle_agg ?_ | refine rle_tup ?_ | refine rle_ifc ?_ | refine rle_fn ?_ ?_ | exact rle_ep | exact rle_sv rfl | exact rle_yl rfl | refine ⟨⟨rfl, _, rfl, ?_⟩, ?_⟩ | exact rle_d rfl (by infer_instance) | refine ⟨⟨_, rfl, ?_⟩, ?_⟩ | refine ⟨⟨rfl, .inl ⟨rfl, _, _, rfl, rfl⟩⟩, ?_⟩ | refine ⟨⟨rfl, .inr ⟨rfl, rfl, rfl⟩⟩, ?_⟩ | refine ⟨⟨rfl, _, rfl, ?_⟩, ?_⟩ | refine ⟨?_, ?_⟩)) (by repeat' (first | exact trivial | exact rle_nil | refine rle_cons ?_ ?_ | exact rle_any | exact rle_dd | exact rle_ptr rfl | exact rle_row rfl rfl | exact rle_rowk rfl rfl | refine rle_agg ?_ | refine rle_tup ?_ | refine rle_ifc ?_ | refine rle_fn ?_ ?_ | exact rle_ep | exact rle_sv rfl | exact rle_yl rfl | refine ⟨⟨rfl, _, rfl, ?_⟩, ?_⟩ | exact rle_d rfl (by infer_instance) | refine ⟨⟨_, rfl, ?_⟩, ?_⟩ | refine ⟨⟨rfl, .inl ⟨rfl, _, _, rfl, rfl⟩⟩, ?_⟩ | refine ⟨⟨rfl, .inr ⟨rfl, rfl, rfl⟩⟩, ?_⟩ | refine ⟨⟨rfl, _, rfl, ?_⟩, ?_⟩ | refine ⟨?_, ?_⟩)) rfl rfl)
      · have hg : fits ((aft ⟨k, 1, b⟩ s).get 1) = true := by simpa [S4.get] using hfit
        exact nx_loop (i + 1, aft ⟨k, 1, b⟩ s) ⟨by simp only; omega, aft_in s _ hz.2.1 hg (by simp), by rw [hz.2.2, hdrop]; simp [stepsOk, hg]⟩ (by simp only; omega) (sub_ren [] (by repeat' (first | exact trivial | exact rle_nil | refine rle_cons ?_ ?_ | exact rle_any | exact rle_dd | exact rle_ptr rfl | exact rle_row rfl rfl | exact rle_rowk rfl rfl | refine rle_agg ?_ | refine rle_tup ?_ | refine rle_ifc ?_ | refine rle_fn ?_ ?_ | exact rle_ep | exact rle_sv rfl | exact rle_yl rfl | refine ⟨⟨rfl, _, rfl, ?_⟩, ?_⟩ | exact rle_d rfl (by infer_instance) | refine ⟨⟨_, rfl, ?_⟩, ?_⟩ | refine ⟨⟨rfl, .inl ⟨rfl, _, _, rfl, rfl⟩⟩, ?_⟩ | refine ⟨⟨rfl, .inr ⟨rfl, rfl, rfl⟩⟩, ?_⟩ | refine ⟨⟨rfl, _, rfl, ?_⟩, ?_⟩ | refine ⟨?_, ?_⟩)) (by repeat' (first | exact trivial | exact rle_nil | refine rle_cons ?_ ?_ | exact rle_any | exact rle_dd | exact rle_ptr rfl | exact rle_row rfl rfl | exact rle_rowk rfl rfl | refine rle_agg ?_ | refine rle_tup ?_ | refine rle_ifc ?_ | refine rle_fn ?_ ?_ | exact rle_ep | exact rle_sv rfl | exact rle_yl rfl | refine ⟨⟨rfl, _, rfl, ?_⟩, ?_⟩ | exact rle_d rfl (by infer_instance) | refine ⟨⟨_, rfl, ?_⟩, ?_⟩ | refine ⟨⟨rfl, .inl ⟨rfl, _, _, rfl, rfl⟩⟩, ?_⟩ | refine ⟨⟨rfl, .inr ⟨rfl, rfl, rfl⟩⟩, ?_⟩ | refine ⟨⟨rfl, _, rfl, ?_⟩, ?_⟩ | refine ⟨?_, ?_⟩)) (by repeat' (first | exact trivial | exact rle_nil | refine rle_cons ?_ ?_ | exact rle_any | exact rle_dd | exact rle_ptr rfl | exact rle_row rfl rfl | exact rle_rowk rfl rfl | refine rle_agg ?_ | refine rle_tup ?_ | refine rle_ifc ?_ | refine rle_fn ?_ ?_ | exact rle_ep | exact rle_sv rfl | exact rle_yl rfl | refine ⟨⟨rfl, _, rfl, ?_⟩, ?_⟩ | exact rle_d rfl (by infer_instance) | refine ⟨⟨_, rfl, ?_⟩, ?_⟩ | refine ⟨⟨rfl, .inl ⟨rfl, _, _, rfl, rfl⟩⟩, ?_⟩ | refine ⟨⟨rfl, .inr ⟨rfl, rfl, rfl⟩⟩, ?_⟩ | refine ⟨⟨rfl, _, rfl, ?_⟩, ?_⟩ | refine ⟨?_, ?_⟩)) rfl rfl)
      · have hg : fits ((aft ⟨k, 2, b⟩ s).get 2) = true := by simpa [S4.get] using hfit
        exact nx_loop (i + 1, aft ⟨k, 2, b⟩ s) ⟨by simp only; omega, aft_in s _ hz.2.1 hg (by simp), by rw [hz.2.2, hdrop]; simp [stepsOk, hg]⟩ (by simp only; omega) (sub_ren [] (by repeat' (first | exact trivial | exact rle_nil | refine rle_cons ?_ ?_ | exact rle_any | exact rle_dd | exact rle_ptr rfl | exact rle_row rfl rfl | exact rle_rowk rfl rfl | refine rle_agg ?_ | refine rle_tup ?_ | refine rle_ifc ?_ | refine rle_fn ?_ ?_ | exact rle_ep | exact rle_sv rfl | exact rle_yl rfl | refine ⟨⟨rfl, _, rfl, ?_⟩, ?_⟩ | exact rle_d rfl (by infer_instance) | refine ⟨⟨_, rfl, ?_⟩, ?_⟩ | refine ⟨⟨rfl, .inl ⟨rfl, _, _, rfl, rfl⟩⟩, ?_⟩ | refine ⟨⟨rfl, .inr ⟨rfl, rfl, rfl⟩⟩, ?_⟩ | refine ⟨⟨rfl, _, rfl, ?_⟩, ?_⟩ | refine ⟨?_, ?_⟩)) (by repeat' (first | exact trivial | exact rle_nil | refine rle_cons ?_ ?_ | exact rle_any | exact rle_dd | exact rle_ptr rfl | exact rle_row rfl rfl | exact rle_rowk rfl rfl | refine rle_agg ?_ | refine rle_tup ?_ | refine rle_ifc ?_ | refine rle_fn ?_ ?_ | exact rle_ep | exact rle_sv rfl | exact rle_yl rfl | refine ⟨⟨rfl, _, rfl, ?_⟩, ?_⟩ | exact rle_d rfl (by infer_instance) | refine ⟨⟨_, rfl, ?_⟩, ?_⟩ | refine ⟨⟨rfl, .inl ⟨rfl, _, _, rfl, rfl⟩⟩, ?_⟩ | refine ⟨⟨rfl, .inr ⟨rfl, rfl, rfl⟩⟩, ?_⟩ | refine ⟨⟨rfl, _, rfl, ?_⟩, ?_⟩ | refine ⟨?_, ?_⟩)) (by repeat' (first | exact trivial | exact rle_nil | refine rle_cons ?_ ?_ | exact rle_any | exact rle_dd | exact rle_ptr rfl | exact rle_row rfl rfl | exact rle_rowk rfl rfl | refine rle_agg ?_ | refine rle_tup ?_ | refine rle_ifc ?_ | refine rle_fn ?_ ?_ | exact rle_ep | exact rle_sv rfl | exact rle_yl rfl | refine ⟨⟨rfl, _, rfl, ?_⟩, ?_⟩ | exact rle_d rfl (by infer_instance) | refine ⟨⟨_, rfl, ?_⟩, ?_⟩ | refine ⟨⟨rfl, .inl ⟨rfl, _, _, rfl, rfl⟩⟩, ?_⟩ | refine ⟨⟨rfl, .inr ⟨rfl, rfl, rfl⟩⟩, ?_⟩ | refine ⟨⟨rfl, _, rfl, ?_⟩, ?_⟩ | refine ⟨?_, ?_⟩)) rfl rfl)
      · have hg : fits ((aft ⟨k, 3, b⟩ s).get 3) = true := by simpa [S4.get] using hfit
        exact nx_loop (i + 1, aft ⟨k, 3, b⟩ s) ⟨by simp only; omega, aft_in s _ hz.2.1 hg (by simp), by rw [hz.2.2, hdrop]; simp [stepsOk, hg]⟩ (by simp only; omega) (sub_ren [] (by repeat' (first | exact trivial | exact rle_nil | refine rle_cons ?_ ?_ | exact rle_any | exact rle_dd | exact rle_ptr rfl | exact rle_row rfl rfl | exact rle_rowk rfl rfl | refine rle_agg ?_ | refine rle_tup ?_ | refine rle_ifc ?_ | refine rle_fn ?_ ?_ | exact rle_ep | exact rle_sv rfl | exact rle_yl rfl | refine ⟨⟨rfl, _, rfl, ?_⟩, ?_⟩ | exact rle_d rfl (by infer_instance) | refine ⟨⟨_, rfl, ?_⟩, ?_⟩ | refine ⟨⟨rfl, .inl ⟨rfl, _, _, rfl, rfl⟩⟩, ?_⟩ | refine ⟨⟨rfl, .inr ⟨rfl, rfl, rfl⟩⟩, ?_⟩ | refine ⟨⟨rfl, _, rfl, ?_⟩, ?_⟩ | refine ⟨?_, ?_⟩)) (by repeat' (first | exact trivial | exact rle_nil | refine rle_cons ?_ ?_ | exact rle_any | exact rle_dd | exact rle_ptr rfl | exact rle_row rfl rfl | exact rle_rowk rfl rfl | refine rle_agg ?_ | refine rle_tup ?_ | refine rle_ifc ?_ | refine rle_fn ?_ ?_ | exact rle_ep | exact rle_sv rfl | exact rle_yl rfl | refine ⟨⟨rfl, _, rfl, ?_⟩, ?_⟩ | exact rle_d rfl (by infer_instance) | refine ⟨⟨_, rfl, ?_⟩, ?_⟩ | refine ⟨⟨rfl, .inl ⟨rfl, _, _, rfl, rfl⟩⟩, ?_⟩ | refine ⟨⟨rfl, .inr ⟨rfl, rfl, rfl⟩⟩, ?_⟩ | refine ⟨⟨rfl, _, rfl, ?_⟩, ?_⟩ | refine ⟨?_, ?_⟩)) (by repeat' (first | exact trivial | exact rle_nil | refine rle_cons ?_ ?_ | exact rle_any | exact rle_dd | exact rle_ptr rfl | exact rle_row rfl rfl | exact rle_rowk rfl rfl | refine rle_agg ?_ | refine rle_tup ?_ | refine rle_ifc ?_ | refine rle_fn ?_ ?_ | exact rle_ep | exact rle_sv rfl | exact rle_yl rfl | refine ⟨⟨rfl, _, rfl, ?_⟩, ?_⟩ | exact rle_d rfl (by infer_instance) | refine ⟨⟨_, rfl, ?_⟩, ?_⟩ | refine ⟨⟨rfl, .inl ⟨rfl, _, _, rfl, rfl⟩⟩, ?_⟩ | refine ⟨⟨rfl, .inr ⟨rfl, rfl, rfl⟩⟩, ?_⟩ | refine ⟨⟨rfl, _, rfl, ?_⟩, ?_⟩ | refine ⟨?_, ?_⟩)) rfl rfl)
    · have hlt : ¬ (i : Int) < ((d.waits.map opD).length : Int) := by simpa using h
      repeat' (first | with_reducible refine vw_seq ?_ | ((with_reducible refine vl_id ?_); first | fail | refine vs_x ?_ | fail | refine vs_p ?_ | refine vs_bs0 ?_ | refine vs_eqnil (fun _ _ => ?_) | refine vs_nenil (fun _ _ => ?_) | ((fail_if_success (refine vs_lit ?_)); first | (refine vs_case ?_ ?_ <;> intro _ <;> (try (exfalso; omega))) | (refine vs_caseb ?_ ?_ <;> intro _))) | ((with_reducible refine vd_id ?_); first | with_reducible refine vd_done ?_ | fail | refine vd_q ?_ | refine vd_rp ?_ | refine vd_rp ?_ (h := r_bs0) | refine vd_r ?_ (h := r_bs0) | refine vd_rs ?_ | refine vd_r ?_ | refine vd_appp ?_ | refine vd_appzp ?_ | refine vd_app ?_ | refine vd_appz ?_ | refine vd_store ?_ | refine vd_storez ?_ | refine vd_skip ?_ | fail | ((fail_if_success (refine vd_lit ?_)); (refine vd_case ?_ ?_ <;> intro hg <;> (first | (exfalso; (try simp only [decide_eq_true_eq, decide_eq_false_iff_not] at hg); omega) | rw [hg])))) | ((with_reducible refine vw_drid ?_); first | fail | refine vw_drawx ?_) | ((with_reducible refine vw_cid ?_); first | refine vw_condt ?_ | refine vw_condf ?_ | (refine vw_cp ?_ ?_ <;> intro _ <;> (try (exfalso; omega))) | (refine vw_cb ?_ ?_ <;> intro _)) | ((with_reducible refine rt_id ?_); first | refine rt_o ?_ | refine rt_a ?_) | ((with_reducible refine rt_idp ?_); refine rt_pan rfl ?_) | ((with_reducible refine rc_id ?_); refine rc_ret ?_) | ((with_reducible refine nx_tryid ?_); refine nx_try ?_) | ((with_reducible refine nx_resid ?_); refine nx_res ?_) | with_reducible (refine NX.go ?_; constructor) | with_reducible refine nx_blkx rfl ?_ | with_reducible refine nx_blky rfl ?_ | ((with_reducible refine nx_mkid ?_); refine nx_mk ?_) | ((with_reducible refine nx_asgid ?_); refine nx_asg ?_) | ((with_reducible refine nx_rndid ?_); first | refine nx_rnd (by assumption) ?_ | refine nx_rnde ?_ | refine nx_rndr ?_) | ((with_reducible refine nx_rngid ?_); first | refine nx_rng (by assumption) ?_ | refine nx_rngj ?_ | refine nx_rngp ?_) | fail)
      all_goals (rw [hz.2.2, List.drop_eq_nil_of_le h]; rfl)
end Go.Proofs.Ytjfaihpiohccbaa

namespace Go.Proofs.Ytjfaihpiohccbaa
open Go.RowKit
set_option maxRecDepth 10000
set_option maxHeartbeats 4000000
/-- an operation in new memory -/
abbrev opN (o : DOp) : List D := [.lit (.int .i64 o.k), .lit (.int .i64 o.f), .sl false true (byD o.b)]
instance newLs_by (b : List UInt8) : NewLs (byD b) := newLs_map b _
instance (l : List DOp) : DLss (l.map opN) (l.map opD) := dlss_map l _ _ (fun _ => inferInstance) (fun _ => rfl)
instance (l : List DOp) : NewLs (l.map opN) := newLs_map l _
abbrev u8T : TypeId := 5
abbrev opT : TypeId := 43
/-- the log of a disk whose files change: variable 0, rows 1 to 4 -/
abbrev drF (d : Dk) : List E := [.c 0 0 [.row 1 0, .row 2 0, .row 3 0, .row 4 0, .d (.lit (.int .i64 d.head)), .d .any, .d (.lit (.bool d.down)), .d (.lit (.int .i64 d.fuse))],
  .r true true 1 0 u8T 1 (byD d.f0), .r true true 2 0 u8T 1 (byD d.f1), .r true true 3 0 u8T 1 (byD d.f2), .r true true 4 0 u8T 1 (byD d.f3)]
/-- the log of a disk that changes: variable 0, rows 1 to 5 -/
abbrev drE (d : Dk) : List E := [.c 0 0 [.row 1 0, .row 2 0, .row 3 0, .row 4 0, .d (.lit (.int .i64 d.head)), .row 5 0, .d (.lit (.bool d.down)), .d (.lit (.int .i64 d.fuse))],
  .r true true 1 0 u8T 1 (byD d.f0), .r true true 2 0 u8T 1 (byD d.f1), .r true true 3 0 u8T 1 (byD d.f2), .r true true 4 0 u8T 1 (byD d.f3), .r true true 5 0 opT 3 (d.waits.map opN)]
def Dk.put (d : Dk) (f : Int) (b : List UInt8) : Dk := if f = 0 then { d with f0 := d.f0 ++ b } else if f = 1 then { d with f1 := d.f1 ++ b } else if f = 2 then { d with f2 := d.f2 ++ b } else { d with f3 := d.f3 ++ b }
def Dk.empty (d : Dk) (f : Int) : Dk := if f = 0 then { d with f0 := [] } else if f = 1 then { d with f1 := [] } else if f = 2 then { d with f2 := [] } else { d with f3 := [] }
/-- an operation that may wait, done -/
def Dk.done (d : Dk) (o : DOp) : Dk := if o.k = 1 then d.put o.f o.b else if o.k = 2 then d.empty o.f else { d with head := o.f }
def Dk.len (d : Dk) (n : Nat) : Prop := d.f0.length ≤ n ∧ d.f1.length ≤ n ∧ d.f2.length ≤ n ∧ d.f3.length ≤ n
theorem put_v (d : Dk) (k f : Int) (b : List UInt8) (hf : 0 ≤ f) (hf4 : f < 4) (h : d.len 10000000000000) (hb : b.length ≤ 1000000000) : VM1 Try.prog 74 1 [.ptr 0 0, .d (.agg (opD ⟨k, f, b⟩))] (drF d) 5 (.ret (.tup [])) (drF (d.put f b)) 5 := by
  have h4 : f = 0 ∨ f = 1 ∨ f = 2 ∨ f = 3 := by omega
  simp only [Dk.len] at h
  rcases h4 with rfl | rfl | rfl | rfl
  ·
    refine vm1_of Try.func74 rfl Try.ntmps74 Try.results74 fun B M => ?_
    simp only [opD, drF]
    repeat' (first | with_reducible refine vw_seq ?_ | ((with_reducible refine vl_id ?_); first | fail | refine vs_x ?_ | fail | refine vs_p ?_ | refine vs_bs0 ?_ | refine vs_eqnil (fun _ _ => ?_) | refine vs_nenil (fun _ _ => ?_) | ((fail_if_success (refine vs_lit ?_)); first | (refine vs_case ?_ ?_ <;> intro _ <;> (try (exfalso; omega))) | (refine vs_caseb ?_ ?_ <;> intro _))) | ((with_reducible refine vd_id ?_); first | with_reducible refine vd_done ?_ | fail | refine vd_q ?_ | refine vd_rp ?_ | refine vd_rp ?_ (h := r_bs0) | refine vd_r ?_ (h := r_bs0) | refine vd_rs ?_ | refine vd_r ?_ | refine vd_appp ?_ | refine vd_appzp ?_ | refine vd_app ?_ | refine vd_appz ?_ | refine vd_store ?_ | refine vd_storez ?_ | refine vd_skip ?_ | fail | ((fail_if_success (refine vd_lit ?_)); (refine vd_case ?_ ?_ <;> intro hg <;> (first | (exfalso; (try simp only [decide_eq_true_eq, decide_eq_false_iff_not] at hg); omega) | rw [hg])))) | ((with_reducible refine vw_drid ?_); first | refine vw_drawkx (id := 1) [1] ?_ | refine vw_drawx ?_) | ((with_reducible refine vw_cid ?_); first | refine vw_condt ?_ | refine vw_condf ?_ | (refine vw_cp ?_ ?_ <;> intro _ <;> (try (exfalso; omega))) | (refine vw_cb ?_ ?_ <;> intro _)) | ((with_reducible refine rt_id ?_); first | refine rt_o ?_ | refine rt_a ?_) | ((with_reducible refine rt_idp ?_); refine rt_pan rfl ?_) | ((with_reducible refine rc_id ?_); refine rc_ret ?_) | ((with_reducible refine nx_tryid ?_); refine nx_try ?_) | ((with_reducible refine nx_resid ?_); refine nx_res ?_) | with_reducible (refine NX.go ?_; constructor) | with_reducible refine nx_blkx rfl ?_ | with_reducible refine nx_blky rfl ?_ | ((with_reducible refine nx_mkid ?_); refine nx_mk ?_) | ((with_reducible refine nx_asgid ?_); refine nx_asg ?_) | ((with_reducible refine nx_rndid ?_); first | refine nx_rnd (by assumption) ?_ | refine nx_rnde ?_ | refine nx_rndr ?_) | ((with_reducible refine nx_rngid ?_); first | refine nx_rng (by assumption) ?_ | refine nx_rngj ?_ | refine nx_rngp ?_) | fail)
    simp [Dk.put, byD, -List.map_map]
    exact nx_sub [(1, _, _)]
  ·
    refine vm1_of Try.func74 rfl Try.ntmps74 Try.results74 fun B M => ?_
    simp only [opD, drF]
    repeat' (first | with_reducible refine vw_seq ?_ | ((with_reducible refine vl_id ?_); first | fail | refine vs_x ?_ | fail | refine vs_p ?_ | refine vs_bs0 ?_ | refine vs_eqnil (fun _ _ => ?_) | refine vs_nenil (fun _ _ => ?_) | ((fail_if_success (refine vs_lit ?_)); first | (refine vs_case ?_ ?_ <;> intro _ <;> (try (exfalso; omega))) | (refine vs_caseb ?_ ?_ <;> intro _))) | ((with_reducible refine vd_id ?_); first | with_reducible refine vd_done ?_ | fail | refine vd_q ?_ | refine vd_rp ?_ | refine vd_rp ?_ (h := r_bs0) | refine vd_r ?_ (h := r_bs0) | refine vd_rs ?_ | refine vd_r ?_ | refine vd_appp ?_ | refine vd_appzp ?_ | refine vd_app ?_ | refine vd_appz ?_ | refine vd_store ?_ | refine vd_storez ?_ | refine vd_skip ?_ | fail | ((fail_if_success (refine vd_lit ?_)); (refine vd_case ?_ ?_ <;> intro hg <;> (first | (exfalso; (try simp only [decide_eq_true_eq, decide_eq_false_iff_not] at hg); omega) | rw [hg])))) | ((with_reducible refine vw_drid ?_); first | refine vw_drawkx (id := 1) [2] ?_ | refine vw_drawx ?_) | ((with_reducible refine vw_cid ?_); first | refine vw_condt ?_ | refine vw_condf ?_ | (refine vw_cp ?_ ?_ <;> intro _ <;> (try (exfalso; omega))) | (refine vw_cb ?_ ?_ <;> intro _)) | ((with_reducible refine rt_id ?_); first | refine rt_o ?_ | refine rt_a ?_) | ((with_reducible refine rt_idp ?_); refine rt_pan rfl ?_) | ((with_reducible refine rc_id ?_); refine rc_ret ?_) | ((with_reducible refine nx_tryid ?_); refine nx_try ?_) | ((with_reducible refine nx_resid ?_); refine nx_res ?_) | with_reducible (refine NX.go ?_; constructor) | with_reducible refine nx_blkx rfl ?_ | with_reducible refine nx_blky rfl ?_ | ((with_reducible refine nx_mkid ?_); refine nx_mk ?_) | ((with_reducible refine nx_asgid ?_); refine nx_asg ?_) | ((with_reducible refine nx_rndid ?_); first | refine nx_rnd (by assumption) ?_ | refine nx_rnde ?_ | refine nx_rndr ?_) | ((with_reducible refine nx_rngid ?_); first | refine nx_rng (by assumption) ?_ | refine nx_rngj ?_ | refine nx_rngp ?_) | fail)
    simp [Dk.put, byD, -List.map_map]
    exact nx_sub [(2, _, _)]
  ·
    refine vm1_of Try.func74 rfl Try.ntmps74 Try.results74 fun B M => ?_
    simp only [opD, drF]
    repeat' (first | with_reducible refine vw_seq ?_ | ((with_reducible refine vl_id ?_); first | fail | refine vs_x ?_ | fail | refine vs_p ?_ | refine vs_bs0 ?_ | refine vs_eqnil (fun _ _ => ?_) | refine vs_nenil (fun _ _ => ?_) | ((fail_if_success (refine vs_lit ?_)); first | (refine vs_case ?_ ?_ <;> intro _ <;> (try (exfalso; omega))) | (refine vs_caseb ?_ ?_ <;> intro _))) | ((with_reducible refine vd_id ?_); first | with_reducible refine vd_done ?_ | fail | refine vd_q ?_ | refine vd_rp ?_ | refine vd_rp ?_ (h := r_bs0) | refine vd_r ?_ (h := r_bs0) | refine vd_rs ?_ | refine vd_r ?_ | refine vd_appp ?_ | refine vd_appzp ?_ | refine vd_app ?_ | refine vd_appz ?_ | refine vd_store ?_ | refine vd_storez ?_ | refine vd_skip ?_ | fail | ((fail_if_success (refine vd_lit ?_)); (refine vd_case ?_ ?_ <;> intro hg <;> (first | (exfalso; (try simp only [decide_eq_true_eq, decide_eq_false_iff_not] at hg); omega) | rw [hg])))) | ((with_reducible refine vw_drid ?_); first | refine vw_drawkx (id := 1) [3] ?_ | refine vw_drawx ?_) | ((with_reducible refine vw_cid ?_); first | refine vw_condt ?_ | refine vw_condf ?_ | (refine vw_cp ?_ ?_ <;> intro _ <;> (try (exfalso; omega))) | (refine vw_cb ?_ ?_ <;> intro _)) | ((with_reducible refine rt_id ?_); first | refine rt_o ?_ | refine rt_a ?_) | ((with_reducible refine rt_idp ?_); refine rt_pan rfl ?_) | ((with_reducible refine rc_id ?_); refine rc_ret ?_) | ((with_reducible refine nx_tryid ?_); refine nx_try ?_) | ((with_reducible refine nx_resid ?_); refine nx_res ?_) | with_reducible (refine NX.go ?_; constructor) | with_reducible refine nx_blkx rfl ?_ | with_reducible refine nx_blky rfl ?_ | ((with_reducible refine nx_mkid ?_); refine nx_mk ?_) | ((with_reducible refine nx_asgid ?_); refine nx_asg ?_) | ((with_reducible refine nx_rndid ?_); first | refine nx_rnd (by assumption) ?_ | refine nx_rnde ?_ | refine nx_rndr ?_) | ((with_reducible refine nx_rngid ?_); first | refine nx_rng (by assumption) ?_ | refine nx_rngj ?_ | refine nx_rngp ?_) | fail)
    simp [Dk.put, byD, -List.map_map]
    exact nx_sub [(3, _, _)]
  ·
    refine vm1_of Try.func74 rfl Try.ntmps74 Try.results74 fun B M => ?_
    simp only [opD, drF]
    repeat' (first | with_reducible refine vw_seq ?_ | ((with_reducible refine vl_id ?_); first | fail | refine vs_x ?_ | fail | refine vs_p ?_ | refine vs_bs0 ?_ | refine vs_eqnil (fun _ _ => ?_) | refine vs_nenil (fun _ _ => ?_) | ((fail_if_success (refine vs_lit ?_)); first | (refine vs_case ?_ ?_ <;> intro _ <;> (try (exfalso; omega))) | (refine vs_caseb ?_ ?_ <;> intro _))) | ((with_reducible refine vd_id ?_); first | with_reducible refine vd_done ?_ | fail | refine vd_q ?_ | refine vd_rp ?_ | refine vd_rp ?_ (h := r_bs0) | refine vd_r ?_ (h := r_bs0) | refine vd_rs ?_ | refine vd_r ?_ | refine vd_appp ?_ | refine vd_appzp ?_ | refine vd_app ?_ | refine vd_appz ?_ | refine vd_store ?_ | refine vd_storez ?_ | refine vd_skip ?_ | fail | ((fail_if_success (refine vd_lit ?_)); (refine vd_case ?_ ?_ <;> intro hg <;> (first | (exfalso; (try simp only [decide_eq_true_eq, decide_eq_false_iff_not] at hg); omega) | rw [hg])))) | ((with_reducible refine vw_drid ?_); first | refine vw_drawkx (id := 1) [4] ?_ | refine vw_drawx ?_) | ((with_reducible refine vw_cid ?_); first | refine vw_condt ?_ | refine vw_condf ?_ | (refine vw_cp ?_ ?_ <;> intro _ <;> (try (exfalso; omega))) | (refine vw_cb ?_ ?_ <;> intro _)) | ((with_reducible refine rt_id ?_); first | refine rt_o ?_ | refine rt_a ?_) | ((with_reducible refine rt_idp ?_); refine rt_pan rfl ?_) | ((with_reducible refine rc_id ?_); refine rc_ret ?_) | ((with_reducible refine nx_tryid ?_); refine nx_try ?_) | ((with_reducible refine nx_resid ?_); refine nx_res ?_) | with_reducible (refine NX.go ?_; constructor) | with_reducible refine nx_blkx rfl ?_ | with_reducible refine nx_blky rfl ?_ | ((with_reducible refine nx_mkid ?_); refine nx_mk ?_) | ((with_reducible refine nx_asgid ?_); refine nx_asg ?_) | ((with_reducible refine nx_rndid ?_); first | refine nx_rnd (by assumption) ?_ | refine nx_rnde ?_ | refine nx_rndr ?_) | ((with_reducible refine nx_rngid ?_); first | refine nx_rng (by assumption) ?_ | refine nx_rngj ?_ | refine nx_rngp ?_) | fail)
    simp [Dk.put, byD, -List.map_map]
    exact nx_sub [(4, _, _)]
theorem empty_v (d : Dk) (k f : Int) (b : List UInt8) (hf : 0 ≤ f) (hf4 : f < 4) : VM1 Try.prog 75 1 [.ptr 0 0, .d (.agg (opD ⟨k, f, b⟩))] (drF d) 5 (.ret (.tup [])) (drF (d.empty f)) 5 := by
  have h4 : f = 0 ∨ f = 1 ∨ f = 2 ∨ f = 3 := by omega
  rcases h4 with rfl | rfl | rfl | rfl
  ·
    refine vm1_of Try.func75 rfl Try.ntmps75 Try.results75 fun B M => ?_
    simp only [opD, drF]
    repeat' (first | with_reducible refine vw_seq ?_ | ((with_reducible refine vl_id ?_); first | fail | refine vs_x ?_ | fail | refine vs_p ?_ | refine vs_bs0 ?_ | refine vs_eqnil (fun _ _ => ?_) | refine vs_nenil (fun _ _ => ?_) | ((fail_if_success (refine vs_lit ?_)); first | (refine vs_case ?_ ?_ <;> intro _ <;> (try (exfalso; omega))) | (refine vs_caseb ?_ ?_ <;> intro _))) | ((with_reducible refine vd_id ?_); first | with_reducible refine vd_done ?_ | fail | refine vd_q ?_ | refine vd_rp ?_ | refine vd_rp ?_ (h := r_bs0) | refine vd_r ?_ (h := r_bs0) | refine vd_rs ?_ | refine vd_r ?_ | refine vd_appp ?_ | refine vd_appzp ?_ | refine vd_app ?_ | refine vd_appz ?_ | refine vd_store ?_ | refine vd_storez ?_ | refine vd_skip ?_ | fail | ((fail_if_success (refine vd_lit ?_)); (refine vd_case ?_ ?_ <;> intro hg <;> (first | (exfalso; (try simp only [decide_eq_true_eq, decide_eq_false_iff_not] at hg); omega) | rw [hg])))) | ((with_reducible refine vw_drid ?_); first | fail | refine vw_drawx ?_) | ((with_reducible refine vw_cid ?_); first | refine vw_condt ?_ | refine vw_condf ?_ | (refine vw_cp ?_ ?_ <;> intro _ <;> (try (exfalso; omega))) | (refine vw_cb ?_ ?_ <;> intro _)) | ((with_reducible refine rt_id ?_); first | refine rt_o ?_ | refine rt_a ?_) | ((with_reducible refine rt_idp ?_); refine rt_pan rfl ?_) | ((with_reducible refine rc_id ?_); refine rc_ret ?_) | ((with_reducible refine nx_tryid ?_); refine nx_try ?_) | ((with_reducible refine nx_resid ?_); refine nx_res ?_) | with_reducible (refine NX.go ?_; constructor) | with_reducible refine nx_blkx rfl ?_ | with_reducible refine nx_blky rfl ?_ | ((with_reducible refine nx_mkid ?_); refine nx_mk ?_) | ((with_reducible refine nx_asgid ?_); refine nx_asg ?_) | ((with_reducible refine nx_rndid ?_); first | refine nx_rnd (by assumption) ?_ | refine nx_rnde ?_ | refine nx_rndr ?_) | ((with_reducible refine nx_rngid ?_); first | refine nx_rng (by assumption) ?_ | refine nx_rngj ?_ | refine nx_rngp ?_) | fail)
    refine nx_subn 0 0 u8T 1 rfl ?_
    exact nx_sub [(1, _, _)]
  ·
    refine vm1_of Try.func75 rfl Try.ntmps75 Try.results75 fun B M => ?_
    simp only [opD, drF]
    repeat' (first | with_reducible refine vw_seq ?_ | ((with_reducible refine vl_id ?_); first | fail | refine vs_x ?_ | fail | refine vs_p ?_ | refine vs_bs0 ?_ | refine vs_eqnil (fun _ _ => ?_) | refine vs_nenil (fun _ _ => ?_) | ((fail_if_success (refine vs_lit ?_)); first | (refine vs_case ?_ ?_ <;> intro _ <;> (try (exfalso; omega))) | (refine vs_caseb ?_ ?_ <;> intro _))) | ((with_reducible refine vd_id ?_); first | with_reducible refine vd_done ?_ | fail | refine vd_q ?_ | refine vd_rp ?_ | refine vd_rp ?_ (h := r_bs0) | refine vd_r ?_ (h := r_bs0) | refine vd_rs ?_ | refine vd_r ?_ | refine vd_appp ?_ | refine vd_appzp ?_ | refine vd_app ?_ | refine vd_appz ?_ | refine vd_store ?_ | refine vd_storez ?_ | refine vd_skip ?_ | fail | ((fail_if_success (refine vd_lit ?_)); (refine vd_case ?_ ?_ <;> intro hg <;> (first | (exfalso; (try simp only [decide_eq_true_eq, decide_eq_false_iff_not] at hg); omega) | rw [hg])))) | ((with_reducible refine vw_drid ?_); first | fail | refine vw_drawx ?_) | ((with_reducible refine vw_cid ?_); first | refine vw_condt ?_ | refine vw_condf ?_ | (refine vw_cp ?_ ?_ <;> intro _ <;> (try (exfalso; omega))) | (refine vw_cb ?_ ?_ <;> intro _)) | ((with_reducible refine rt_id ?_); first | refine rt_o ?_ | refine rt_a ?_) | ((with_reducible refine rt_idp ?_); refine rt_pan rfl ?_) | ((with_reducible refine rc_id ?_); refine rc_ret ?_) | ((with_reducible refine nx_tryid ?_); refine nx_try ?_) | ((with_reducible refine nx_resid ?_); refine nx_res ?_) | with_reducible (refine NX.go ?_; constructor) | with_reducible refine nx_blkx rfl ?_ | with_reducible refine nx_blky rfl ?_ | ((with_reducible refine nx_mkid ?_); refine nx_mk ?_) | ((with_reducible refine nx_asgid ?_); refine nx_asg ?_) | ((with_reducible refine nx_rndid ?_); first | refine nx_rnd (by assumption) ?_ | refine nx_rnde ?_ | refine nx_rndr ?_) | ((with_reducible refine nx_rngid ?_); first | refine nx_rng (by assumption) ?_ | refine nx_rngj ?_ | refine nx_rngp ?_) | fail)
    refine nx_subn 0 1 u8T 1 rfl ?_
    exact nx_sub [(2, _, _)]
  ·
    refine vm1_of Try.func75 rfl Try.ntmps75 Try.results75 fun B M => ?_
    simp only [opD, drF]
    repeat' (first | with_reducible refine vw_seq ?_ | ((with_reducible refine vl_id ?_); first | fail | refine vs_x ?_ | fail | refine vs_p ?_ | refine vs_bs0 ?_ | refine vs_eqnil (fun _ _ => ?_) | refine vs_nenil (fun _ _ => ?_) | ((fail_if_success (refine vs_lit ?_)); first | (refine vs_case ?_ ?_ <;> intro _ <;> (try (exfalso; omega))) | (refine vs_caseb ?_ ?_ <;> intro _))) | ((with_reducible refine vd_id ?_); first | with_reducible refine vd_done ?_ | fail | refine vd_q ?_ | refine vd_rp ?_ | refine vd_rp ?_ (h := r_bs0) | refine vd_r ?_ (h := r_bs0) | refine vd_rs ?_ | refine vd_r ?_ | refine vd_appp ?_ | refine vd_appzp ?_ | refine vd_app ?_ | refine vd_appz ?_ | refine vd_store ?_ | refine vd_storez ?_ | refine vd_skip ?_ | fail | ((fail_if_success (refine vd_lit ?_)); (refine vd_case ?_ ?_ <;> intro hg <;> (first | (exfalso; (try simp only [decide_eq_true_eq, decide_eq_false_iff_not] at hg); omega) | rw [hg])))) | ((with_reducible refine vw_drid ?_); first | fail | refine vw_drawx ?_) | ((with_reducible refine vw_cid ?_); first | refine vw_condt ?_ | refine vw_condf ?_ | (refine vw_cp ?_ ?_ <;> intro _ <;> (try (exfalso; omega))) | (refine vw_cb ?_ ?_ <;> intro _)) | ((with_reducible refine rt_id ?_); first | refine rt_o ?_ | refine rt_a ?_) | ((with_reducible refine rt_idp ?_); refine rt_pan rfl ?_) | ((with_reducible refine rc_id ?_); refine rc_ret ?_) | ((with_reducible refine nx_tryid ?_); refine nx_try ?_) | ((with_reducible refine nx_resid ?_); refine nx_res ?_) | with_reducible (refine NX.go ?_; constructor) | with_reducible refine nx_blkx rfl ?_ | with_reducible refine nx_blky rfl ?_ | ((with_reducible refine nx_mkid ?_); refine nx_mk ?_) | ((with_reducible refine nx_asgid ?_); refine nx_asg ?_) | ((with_reducible refine nx_rndid ?_); first | refine nx_rnd (by assumption) ?_ | refine nx_rnde ?_ | refine nx_rndr ?_) | ((with_reducible refine nx_rngid ?_); first | refine nx_rng (by assumption) ?_ | refine nx_rngj ?_ | refine nx_rngp ?_) | fail)
    refine nx_subn 0 2 u8T 1 rfl ?_
    exact nx_sub [(3, _, _)]
  ·
    refine vm1_of Try.func75 rfl Try.ntmps75 Try.results75 fun B M => ?_
    simp only [opD, drF]
    repeat' (first | with_reducible refine vw_seq ?_ | ((with_reducible refine vl_id ?_); first | fail | refine vs_x ?_ | fail | refine vs_p ?_ | refine vs_bs0 ?_ | refine vs_eqnil (fun _ _ => ?_) | refine vs_nenil (fun _ _ => ?_) | ((fail_if_success (refine vs_lit ?_)); first | (refine vs_case ?_ ?_ <;> intro _ <;> (try (exfalso; omega))) | (refine vs_caseb ?_ ?_ <;> intro _))) | ((with_reducible refine vd_id ?_); first | with_reducible refine vd_done ?_ | fail | refine vd_q ?_ | refine vd_rp ?_ | refine vd_rp ?_ (h := r_bs0) | refine vd_r ?_ (h := r_bs0) | refine vd_rs ?_ | refine vd_r ?_ | refine vd_appp ?_ | refine vd_appzp ?_ | refine vd_app ?_ | refine vd_appz ?_ | refine vd_store ?_ | refine vd_storez ?_ | refine vd_skip ?_ | fail | ((fail_if_success (refine vd_lit ?_)); (refine vd_case ?_ ?_ <;> intro hg <;> (first | (exfalso; (try simp only [decide_eq_true_eq, decide_eq_false_iff_not] at hg); omega) | rw [hg])))) | ((with_reducible refine vw_drid ?_); first | fail | refine vw_drawx ?_) | ((with_reducible refine vw_cid ?_); first | refine vw_condt ?_ | refine vw_condf ?_ | (refine vw_cp ?_ ?_ <;> intro _ <;> (try (exfalso; omega))) | (refine vw_cb ?_ ?_ <;> intro _)) | ((with_reducible refine rt_id ?_); first | refine rt_o ?_ | refine rt_a ?_) | ((with_reducible refine rt_idp ?_); refine rt_pan rfl ?_) | ((with_reducible refine rc_id ?_); refine rc_ret ?_) | ((with_reducible refine nx_tryid ?_); refine nx_try ?_) | ((with_reducible refine nx_resid ?_); refine nx_res ?_) | with_reducible (refine NX.go ?_; constructor) | with_reducible refine nx_blkx rfl ?_ | with_reducible refine nx_blky rfl ?_ | ((with_reducible refine nx_mkid ?_); refine nx_mk ?_) | ((with_reducible refine nx_asgid ?_); refine nx_asg ?_) | ((with_reducible refine nx_rndid ?_); first | refine nx_rnd (by assumption) ?_ | refine nx_rnde ?_ | refine nx_rndr ?_) | ((with_reducible refine nx_rngid ?_); first | refine nx_rng (by assumption) ?_ | refine nx_rngj ?_ | refine nx_rngp ?_) | fail)
    refine nx_subn 0 3 u8T 1 rfl ?_
    exact nx_sub [(4, _, _)]
theorem point_v (d : Dk) (k f : Int) (b : List UInt8) : VM1 Try.prog 76 1 [.ptr 0 0, .d (.agg (opD ⟨k, f, b⟩))] (drF d) 5 (.ret (.tup [])) (drF { d with head := f }) 5 := by
  refine vm1_of Try.func76 rfl Try.ntmps76 Try.results76 fun B M => ?_
  simp only [opD, drF]
  repeat' (first | with_reducible refine vw_seq ?_ | ((with_reducible refine vl_id ?_); first | fail | refine vs_x ?_ | fail | refine vs_p ?_ | refine vs_bs0 ?_ | refine vs_eqnil (fun _ _ => ?_) | refine vs_nenil (fun _ _ => ?_) | ((fail_if_success (refine vs_lit ?_)); first | (refine vs_case ?_ ?_ <;> intro _ <;> (try (exfalso; omega))) | (refine vs_caseb ?_ ?_ <;> intro _))) | ((with_reducible refine vd_id ?_); first | with_reducible refine vd_done ?_ | fail | refine vd_q ?_ | refine vd_rp ?_ | refine vd_rp ?_ (h := r_bs0) | refine vd_r ?_ (h := r_bs0) | refine vd_rs ?_ | refine vd_r ?_ | refine vd_appp ?_ | refine vd_appzp ?_ | refine vd_app ?_ | refine vd_appz ?_ | refine vd_store ?_ | refine vd_storez ?_ | refine vd_skip ?_ | fail | ((fail_if_success (refine vd_lit ?_)); (refine vd_case ?_ ?_ <;> intro hg <;> (first | (exfalso; (try simp only [decide_eq_true_eq, decide_eq_false_iff_not] at hg); omega) | rw [hg])))) | ((with_reducible refine vw_drid ?_); first | fail | refine vw_drawx ?_) | ((with_reducible refine vw_cid ?_); first | refine vw_condt ?_ | refine vw_condf ?_ | (refine vw_cp ?_ ?_ <;> intro _ <;> (try (exfalso; omega))) | (refine vw_cb ?_ ?_ <;> intro _)) | ((with_reducible refine rt_id ?_); first | refine rt_o ?_ | refine rt_a ?_) | ((with_reducible refine rt_idp ?_); refine rt_pan rfl ?_) | ((with_reducible refine rc_id ?_); refine rc_ret ?_) | ((with_reducible refine nx_tryid ?_); refine nx_try ?_) | ((with_reducible refine nx_resid ?_); refine nx_res ?_) | with_reducible (refine NX.go ?_; constructor) | with_reducible refine nx_blkx rfl ?_ | with_reducible refine nx_blky rfl ?_ | ((with_reducible refine nx_mkid ?_); refine nx_mk ?_) | ((with_reducible refine nx_asgid ?_); refine nx_asg ?_) | ((with_reducible refine nx_rndid ?_); first | refine nx_rnd (by assumption) ?_ | refine nx_rnde ?_ | refine nx_rndr ?_) | ((with_reducible refine nx_rngid ?_); first | refine nx_rng (by assumption) ?_ | refine nx_rngj ?_ | refine nx_rngp ?_) | fail)
  exact nx_sub []
theorem does_v (d : Dk) (o : DOp) (hk : 1 ≤ o.k ∧ o.k ≤ 3) (hf : 0 ≤ o.f ∧ o.f < 4) (h : d.len 10000000000000) (hb : o.b.length ≤ 1000000000) : VM1 Try.prog 66 1 [.ptr 0 0, .d (.agg (opD o))] (drF d) 5 (.ret (.tup [])) (drF (d.done o)) 5 := by
  obtain ⟨k, f, b⟩ := o
  simp only at hk hf hb
  have h3 : k = 1 ∨ k = 2 ∨ k = 3 := by omega
  have c1 := put_v d k f b (by omega) (by omega) h hb
  have c2 := empty_v d k f b (by omega) (by omega)
  have c3 := point_v d k f b
  rcases h3 with rfl | rfl | rfl
  all_goals
    refine vm1_of Try.func66 rfl Try.ntmps66 Try.results66 fun B M => ?_
    simp only [opD, drF] at c1 c2 c3 ⊢
    repeat' (first | with_reducible refine vw_seq ?_ | ((with_reducible refine vl_id ?_); first | fail | refine vs_x ?_ | refine vs_vm [(0, none), (1, some _), (2, some _), (3, some _), (4, some _)] c1 ?_ | refine vs_vm [(0, none), (1, some _), (2, some _), (3, some _), (4, some _)] c2 ?_ | refine vs_vm [(0, none), (1, some _), (2, some _), (3, some _), (4, some _)] c3 ?_ | refine vs_p ?_ | refine vs_bs0 ?_ | refine vs_eqnil (fun _ _ => ?_) | refine vs_nenil (fun _ _ => ?_) | ((fail_if_success (refine vs_lit ?_)); first | (refine vs_case ?_ ?_ <;> intro _ <;> (try (exfalso; omega))) | (refine vs_caseb ?_ ?_ <;> intro _))) | ((with_reducible refine vd_id ?_); first | with_reducible refine vd_done ?_ | fail | refine vd_q ?_ | refine vd_rp ?_ | refine vd_rp ?_ (h := r_bs0) | refine vd_r ?_ (h := r_bs0) | refine vd_rs ?_ | refine vd_r ?_ | refine vd_appp ?_ | refine vd_appzp ?_ | refine vd_app ?_ | refine vd_appz ?_ | refine vd_store ?_ | refine vd_storez ?_ | refine vd_skip ?_ | refine vs_vm [(0, none), (1, some _), (2, some _), (3, some _), (4, some _)] c1 ?_ | refine vs_vm [(0, none), (1, some _), (2, some _), (3, some _), (4, some _)] c2 ?_ | refine vs_vm [(0, none), (1, some _), (2, some _), (3, some _), (4, some _)] c3 ?_ | ((fail_if_success (refine vd_lit ?_)); (refine vd_case ?_ ?_ <;> intro hg <;> (first | (exfalso; (try simp only [decide_eq_true_eq, decide_eq_false_iff_not] at hg); omega) | rw [hg])))) | ((with_reducible refine vw_drid ?_); first | fail | refine vw_drawx ?_) | ((with_reducible refine vw_cid ?_); first | refine vw_condt ?_ | refine vw_condf ?_ | (refine vw_cp ?_ ?_ <;> intro _ <;> (try (exfalso; omega))) | (refine vw_cb ?_ ?_ <;> intro _)) | ((with_reducible refine rt_id ?_); first | refine rt_o ?_ | refine rt_a ?_) | ((with_reducible refine rt_idp ?_); refine rt_pan rfl ?_) | ((with_reducible refine rc_id ?_); refine rc_ret ?_) | ((with_reducible refine nx_tryid ?_); refine nx_try ?_) | ((with_reducible refine nx_resid ?_); refine nx_res ?_) | with_reducible (refine NX.go ?_; constructor) | with_reducible refine nx_blkx rfl ?_ | with_reducible refine nx_blky rfl ?_ | ((with_reducible refine nx_mkid ?_); refine nx_mk ?_) | ((with_reducible refine nx_asgid ?_); refine nx_asg ?_) | ((with_reducible refine nx_rndid ?_); first | refine nx_rnd (by assumption) ?_ | refine nx_rnde ?_ | refine nx_rndr ?_) | ((with_reducible refine nx_rngid ?_); first | refine nx_rng (by assumption) ?_ | refine nx_rngj ?_ | refine nx_rngp ?_) | fail)
    exact nx_sub [(1, _, _), (2, _, _), (3, _, _), (4, _, _)]
end Go.Proofs.Ytjfaihpiohccbaa
