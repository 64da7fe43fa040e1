/- Walks by data and names, part 20: Ranges over functions: the function is walked where it stands; what it calls is the loop's body. A panic in the body of a range over a function: it goes up through the function that is ranged over. -/
import Derived.RangeFuncIn
import Derived.Test.YtbgcjnfhadhjeaaGreatPk19
namespace Go.Proofs.YtbgcjnfhadhjeaaGreat
set_option maxRecDepth 20000
open Go.RowKit
theorem D8.unm {N B m k : Nat} {rd : Option Nat} {df : List (FuncId × List V)} {g g' : G} {w w' : World} (h : D8 (Cx.sp ⟨N, rd, B, m, none, df⟩) k g w g' w') : D8 False k g w g' w' := h.up fun e => (by cases e)
theorem D8.trans2 {sp : Prop} {m : Nat} {g g1 g2 : G} {w w1 w2 : World} (h : D8 sp m g w g1 w1) (k : D8 False m g1 w1 g2 w2) : D8 sp m g w g2 w2 :=
  ⟨k.os.trans h.os, k.tape.trans h.tape, k.output.trans h.output, Nat.le_trans h.size k.size, fun hk e => k.bx hk (h.bx hk e), fun hk e => k.rw hk (h.rw hk e),
   fun b hb hp => let ⟨h1, h2⟩ := h.blk b hb hp; let ⟨k1, k2⟩ := k.blk b (Nat.lt_of_lt_of_le hb h.size) h1; ⟨k1, k2.trans h2⟩,
   fun b hb => k.ex b (h.ex b hb), fun b hb hn => (k.exb b (h.ex b hb)).trans (h.exblk b hb hn), h.pl.trans k.pl h.size, fun b hb hlt => J3 (h.blur b hb hlt) (k.blur b ((h.pl b).1 hb) (Nat.lt_of_lt_of_le hlt h.size))⟩
theorem BO.ext {B : Nat} {g g' : G} {w w' : World} (h : BO B g w g' w') (sp : Prop) (m : Nat) : D8 sp m g w g' w' := (D8.refl sp m g w).trans h
def DP (k : Nat) : List E → Option (List E)
 | [] => some []
 | .y k' lp T tm :: r => (match DP k r with
  | some q => (match Nat.beq k k' with
   | true => some q
   | false => some (.y k' lp T tm :: q))
  | none => none)
 | .c i off vs :: r => (match DP k r with
  | some q => some (.c i off vs :: q)
  | none => none)
 | .r o nw i ver e sz l :: r => (match DP k r with
  | some q => some (.r o nw i ver e sz l :: q)
  | none => none)
theorem Fj {k : Nat} : ∀ {st q : List E}, DP k st = some q → (∀ i o, Ap i o q = Ap i o st) ∧ (∀ i, AB i q = AB i st) ∧ ∀ i, i ≠ k → Au i q = Au i st
 | [], q, h => by simp only [DP, Option.some.injEq] at h; subst h; exact ⟨fun _ _ => rfl, fun _ => rfl, fun _ _ => rfl⟩
 | .y k' lp T tm :: r, q, h => by
  simp only [DP] at h
  split at h
  ·rename_i q' hq
   obtain ⟨h1, h2, h3⟩ := Fj hq
   split at h
   ·rename_i hb
    cases h
    refine ⟨fun i o => by simp only [Ap]; exact h1 i o, fun i => by simp only [AB]; exact h2 i, fun i hi => ?_⟩
    have := Nat.eq_of_beq_eq_true hb
    subst this
    simp only [Au]
    rw [show Nat.beq i k = false from by
     cases hb : Nat.beq i k
     ·rfl
     ·exact (hi (Nat.eq_of_beq_eq_true hb)).elim]
    exact h3 i hi
   ·cases h
    refine ⟨fun i o => by simp only [Ap]; exact h1 i o, fun i => by simp only [AB]; exact h2 i, fun i hi => ?_⟩
    simp only [Au]
    split
    ·rfl
    ·exact h3 i hi
  ·cases h
 | .c .. :: r, q, h => by
  simp only [DP] at h
  split at h
  ·rename_i q' hq
   obtain ⟨h1, h2, h3⟩ := Fj hq
   cases h
   refine ⟨fun i o => by simp only [Ap, h1], fun i => by simp only [AB]; exact h2 i, fun i hi => by simp only [Au]; exact h3 i hi⟩
  ·cases h
 | .r .. :: r, q, h => by
  simp only [DP] at h
  split at h
  ·rename_i q' hq
   obtain ⟨h1, h2, h3⟩ := Fj hq
   cases h
   refine ⟨fun i o => by simp only [Ap]; exact h1 i o, fun i => by simp only [AB, h2], fun i hi => by simp only [Au]; exact h3 i hi⟩
  ·cases h
theorem El {k : Nat} : ∀ {st q : List E}, DP k st = some q → Au k q = none
 | [], q, h => by simp only [DP, Option.some.injEq] at h; subst h; rfl
 | .y k' lp T tm :: r, q, h => by
  simp only [DP] at h
  split at h
  ·rename_i q' hq
   split at h
   ·cases h; exact El hq
   ·rename_i hb
    cases h
    simp only [Au, hb]; exact El hq
  ·cases h
 | .c .. :: r, q, h => by
  simp only [DP] at h
  split at h
  ·rename_i q' hq; cases h; simp only [Au]; exact El hq
  ·cases h
 | .r .. :: r, q, h => by
  simp only [DP] at h
  split at h
  ·rename_i q' hq; cases h; simp only [Au]; exact El hq
  ·cases h
def Hc (N : Nat) : List (Nat × V) → Option (List (Nat × V))
 | [] => some []
 | (t, v) :: r => match Hc N r with
  | some q => (match Nat.blt t N with
   | true => some ((t, v) :: q)
   | false => some q)
  | none => none
theorem F6 {N : Nat} : ∀ {tm q : List (Nat × V)}, Hc N tm = some q → ∀ {t v}, AE t q = some v → t < N ∧ AE t tm = some v
 | [], q, h, t, v, hv => by simp only [Hc, Option.some.injEq] at h; subst h; simp [AE] at hv
 | (t', v') :: r, q, h, t, v, hv => by
  simp only [Hc] at h
  split at h
  ·rename_i q' hq
   split at h
   ·rename_i hb
    cases h
    simp only [AE] at hv ⊢
    split at hv
    ·rename_i he
     have := Nat.eq_of_beq_eq_true he
     subst this
     exact ⟨D6 hb, hv⟩
    ·exact F6 hq hv
   ·rename_i hb
    cases h
    obtain ⟨h1, h2⟩ := F6 hq hv
    refine ⟨h1, ?_⟩
    simp only [AE]
    split
    ·rename_i he
     have := Nat.eq_of_beq_eq_true he
     subst this
     rw [D7.2 h1] at hb; cases hb
    ·exact h2
  ·cases h
structure Fq (N : Nat) (ps : Array Tmp) (assign body : Code) (R : Loop) (T : Array Value) : Prop where
 state : R.state = .ready
 pending : R.pending = none
 params : R.params = ps
 assign : R.assign = assign
 body : R.body = body
 size : R.tmps.size = N
 low : ∀ t, t < N → T.getD t undef = R.tmps.getD t undef
section
variable {B nb nb' k : Nat} {g g' : G} {w w' : World} {st st' : List E}
theorem Kw (hi : Cs B nb g w) (hs : AG B g w st) {lp : Loop} {T : Array Value} {tm : List (Nat × V)} (hl : Au k st = some (some lp, T, tm)) :
  ∃ l, g.bx k = some l ∧ w.heap[l]? = some (.loop lp) ∧ ∀ lp', BO B g w g (w.putObj l (.loop lp')) ∧ Cs B nb g (w.putObj l (.loop lp')) ∧
   (∀ q, DP k st = some q → AG B g (w.putObj l (.loop lp')) q) ∧ AG B g (w.putObj l (.loop lp')) (.y k (some lp') T tm :: st) := by
 obtain ⟨h1, h2⟩ := hs.loop hl
 obtain ⟨l, m1, m2⟩ := h1 lp rfl
 refine ⟨l, m1, m2, fun lp' => ?_⟩
 have hlt := (Array.getElem?_eq_some_iff.1 m2).1
 have hg : w.grownBy (w.putObj l (.loop lp')) (some l) := grownBy_putObj' w l _
 have hE : BO B g w g (w.putObj l (.loop lp')) := BO.of_grown hi hg (.inl ⟨k, m1⟩)
 have hnew : (w.putObj l (.loop lp')).heap[l]? = some (.loop lp') := World.putObj_heap_same hlt
 have hoth : ∀ b, b ≠ l → (w.putObj l (.loop lp')).heap[b]? = w.heap[b]? := fun b hb => World.putObj_heap_other hb
 have hcell : ∀ {i o v}, Ap i o st = some v → ∃ b rcs ty u, g.bx i = some b ∧ (w.putObj l (.loop lp')).heap[b]? = some (.cells rcs ty (0, 0)) ∧ rcs[o]? = some u ∧ vrep B g (w.putObj l (.loop lp')) v u := fun {i o v} hc => by
  obtain ⟨b, rcs, ty, u, a1, a2, a3, a4⟩ := hs.cell hc
  exact ⟨b, rcs, ty, u, a1, (hoth b fun e => by subst e; rw [m2] at a2; cases a2).trans a2, a3, hE.vrep a4⟩
 have hrow : ∀ {i o nw ver e sz l2}, AB i st = some (o, nw, ver, e, sz, l2) → _ := fun {i o nw ver e sz l2} hr => hs.keepRow hE hg rfl rfl (fun b hb e => by cases e; exact hi.apart m1 hb) hr
 have hloop : ∀ {i r T' tm'}, i ≠ k → Au i st = some (r, T', tm') → (∀ lp0, r = some lp0 → ∃ b, g.bx i = some b ∧ (w.putObj l (.loop lp')).heap[b]? = some (.loop lp0)) ∧ ∀ {t v}, AE t tm' = some v → vrep B g (w.putObj l (.loop lp')) v (T'.getD t undef) := fun {i r T' tm'} hik hl' => by
  obtain ⟨a1, a2⟩ := hs.loop hl'
  exact ⟨fun lp0 e => let ⟨b, c1, c2⟩ := a1 lp0 e; ⟨b, c1, (hoth b fun e => by subst e; exact hik (hi.bxinj c1 m1)).trans c2⟩, fun ht => hE.vrep (a2 ht)⟩
 refine ⟨hE, hi.evo (by simp), fun q hq => ?_, ⟨fun {i o v} hc => ?_, fun {i o nw ver e sz l2} hr => ?_, fun {i r T' tm'} hl' => ?_⟩⟩
 ·obtain ⟨d1, d2, d3⟩ := Fj hq
  have d4 := El hq
  refine ⟨fun {i o v} hc => hcell (by rw [← d1]; exact hc), fun {i o nw ver e sz l2} hr => hrow (by rw [← d2]; exact hr), fun {i r T' tm'} hl' => ?_⟩
  by_cases e : i = k
  ·subst e; rw [d4] at hl'; cases hl'
  ·exact hloop e (by rw [← d3 i e]; exact hl')
 ·simp only [Ap] at hc; exact hcell hc
 ·simp only [AB] at hr; exact hrow hr
 ·simp only [Au] at hl'
  split at hl'
  ·rename_i hb
   have := Nat.eq_of_beq_eq_true hb
   subst this
   cases hl'
   exact ⟨fun lp0 e => by cases e; exact ⟨l, m1, hnew⟩, fun ht => hE.vrep (h2 ht)⟩
  ·rename_i hb
   exact hloop (fun e => by subst e; rw [Nat.beq_refl] at hb; cases hb) hl'
end

end Go.Proofs.YtbgcjnfhadhjeaaGreat
namespace Go
variable {F : Fence} {n : Nat} {P : Program}
def PX (P : Program) (f : FuncId) (l : Nat) (R : Ending → World → Prop) : Exit → Act → World → Prop
 | .panic chain, a, w => a.defers = [] ∧ (∃ fn, P.funcs[f]? = some fn) ∧ R (.panicked chain) w
 | e, a, w => roundPost P l R e a w
theorem HW {fr c : Frame} {cs : List Frame} {w : World} {chain : List PanicEntry} (hm : fr.mode = .panicking chain) (hd : fr.defers = []) {fn : Func} (hf : P.funcs[fr.fn]? = some fn) : step P (lone fr (c :: cs) w) = .next (lone (c.raise chain) cs w) :=
 step_lone_go (by simp [stepG, unwind, Frame.catches, hm, hd, hf])
theorem Jo {l : Nat} {f : FuncId} {tmps : Array Value} {assign body : Code} {w : World} {R : Ending → World → Prop} (hF : F.fn f)
  (h : assign.wpIn (F.inRound l) n P (Exit.then (fun a₁ w₁ => ∃ w₂, (Instr.beginRound l).run P w₁ = .ok () w₂ ∧ body.wpIn (F.inRound l) n P (PX P f l R) a₁ w₂) (fun _ _ _ => False))
   { tmps := tmps, defers := [] } w) :
  RoundIn F n P l f tmps assign body w R := by
 refine ⟨hF, fun c cs hr => ?_⟩
 let b : Frame := { (default : Frame) with fn := f, kind := .normal, roundOf := some l }
 have hb0 : Frame.round l f tmps assign body .normal = b.atR { tmps := tmps, defers := [] } [.code assign, .beginRound, .code body] := by
  simp [Frame.round, Frame.atR, b]
 have hr' : (F.inRound l).room ((c :: cs).length + 1 + n) := hr
 have hF' : (F.inRound l).fn b.fn := hF
 obtain ⟨e, a₁, w₁, hq, harr⟩ := h b [.beginRound, .code body] (c :: cs) rfl hF' hr'
 rw [← hb0] at harr
 cases e with
 | normal =>
  obtain ⟨w₂, hbr, hbody⟩ := hq
  have s1 : StepsIn (Machine.fenced P (F.inRound l)) P (lone (b.atR a₁ [.beginRound, .code body]) (c :: cs) w₁) (lone (b.atR a₁ [.code body]) (c :: cs) w₂) :=
   .one (fenced_calm (fr := b.atR a₁ [.beginRound, .code body]) hF' hr' rfl) (stepR_beginRound rfl hbr)
  obtain ⟨e₂, a₂, w₃, hq₂, harr₂⟩ := hbody b [] (c :: cs) rfl hF' hr'
  cases e₂ with
  | normal =>
   obtain ⟨v, w₄, hend, hR⟩ := hq₂
   exact ⟨.returned v, w₄, hR, (StepsIn.trans harr s1).trans (StepsIn.trans harr₂ (.one (fenced_calm (fr := b.atR a₂ []) hF' hr' rfl) (stepR_round_end rfl rfl hend)))⟩
  | ret =>
   obtain ⟨v, w₄, hend, hR⟩ := hq₂
   obtain ⟨k₁, hs⟩ := harr₂.2 rfl
   exact ⟨.returned v, w₄, hR, (StepsIn.trans harr s1).trans (StepsIn.trans hs (.one (fenced_calm (fr := b.atR a₂ (.code .ret :: k₁)) hF' hr' rfl) (stepR_round_ret rfl rfl hend)))⟩
  | exit id =>
   obtain ⟨v, w₄, hend, hR⟩ := hq₂
   obtain ⟨k₁, hk, hs⟩ := harr₂.2 rfl rfl
   exact ⟨.returned v, w₄, hR, (StepsIn.trans harr s1).trans (StepsIn.trans hs (.one (fenced_calm (fr := b.atR a₂ (.code (.exit id) :: k₁)) hF' hr' rfl) (stepR_round_exit rfl rfl hk hend)))⟩
  | goto t =>
   obtain ⟨v, w₄, hend, hR⟩ := hq₂
   obtain ⟨k₁, hk, hs⟩ := harr₂.2 rfl rfl
   exact ⟨.returned v, w₄, hR, (StepsIn.trans harr s1).trans (StepsIn.trans hs (.one (fenced_calm (fr := b.atR a₂ (.code (.goto t) :: k₁)) hF' hr' rfl) (stepR_round_goto rfl rfl hk hend)))⟩
  | panic chain =>
   obtain ⟨hd, ⟨fn, hfn⟩, hR⟩ := hq₂
   obtain ⟨todo, hs⟩ := harr₂
   refine ⟨.panicked chain, w₃, hR, (StepsIn.trans harr s1).trans (StepsIn.trans hs (.one (fenced_calm (fr := { b.atR a₂ todo with mode := .panicking chain }) hF' hr' ?_) (HW (fn := fn) rfl hd hfn)))⟩
   simp [Frame.about, Frame.atR, hd]
  | outgrown => exact hq₂.elim
 | exit id => exact hq.elim
 | goto t => exact hq.elim
 | ret => exact hq.elim
 | panic chain => exact hq.elim
 | outgrown => exact hq.elim
end Go
