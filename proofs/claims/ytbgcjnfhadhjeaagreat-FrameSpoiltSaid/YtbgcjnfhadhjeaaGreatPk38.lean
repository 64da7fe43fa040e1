/- Walks by data and names, part 38: Walks of regions that draw their order by XVChain: operation by operation, in the text's order. Chains: a store. -/
import Derived.Test.YtbgcjnfhadhjeaaGreatPk37
import Derived.Test.YtbgcjnfhadhjeaaGreatPk25
namespace Go.Proofs.YtbgcjnfhadhjeaaGreat
set_option maxRecDepth 20000
open Go.RowKit
def LH (t : Tmp) : List It → Option (Nat × V)
 | [] => none
 | ⟨⟨some d, _, _, _, _, _⟩, v, _, _, _⟩ :: L => (match Nat.beq t d with
  | true => some (L.length, v)
  | false => LH t L)
 | ⟨⟨none, _, _, _, _, _⟩, _, _, _, _⟩ :: L => LH t L
def Jk (es : List Edge) (ds : List Nat) (L : List It) (tm : List (Nat × V)) : List Tmp → Option (List (Nat × V))
 | [] => some []
 | t :: ts => match Jk es ds L tm ts with
  | none => none
  | some r => (match LH t L with
   | some (j, v) => (match E5 j es with
    | true => some ((t, v) :: r)
    | false => none)
   | none => (match CT t ds with
    | true => none
    | false => (match AE t tm with
     | some v => some ((t, v) :: r)
     | none => some r)))
theorem In {t : Tmp} : ∀ {L : List It} {j : Nat} {v : V}, LH t L = some (j, v) → ∃ a y b, L = a ++ y :: b ∧ MX y = [(t, v)] ∧ b.length = j
 | [], _, _, h => by simp [LH] at h
 | x :: L, j, v, h => by
  obtain ⟨⟨dst, op, ty, pos, af, gd⟩, xv, ti, ef, rq⟩ := x
  cases dst with
  | none =>
   simp only [LH] at h
   obtain ⟨a, y, b, rfl, h1, h2⟩ := In h
   exact ⟨_ :: a, y, b, rfl, h1, h2⟩
  | some d =>
   simp only [LH] at h
   split at h
   ·rename_i hb
    have := Nat.eq_of_beq_eq_true hb
    subst this
    cases h
    exact ⟨[], _, L, rfl, rfl, rfl⟩
   ·obtain ⟨a, y, b, rfl, h1, h2⟩ := In h
    exact ⟨_ :: a, y, b, rfl, h1, h2⟩
theorem DM {es : List Edge} {ds : List Nat} {L : List It} {tm : List (Nat × V)} : ∀ {ts : List Tmp} {ti : List (Nat × V)}, Jk es ds L tm ts = some ti → ∀ t v, AE t ti = some v →
  (∃ a y b, L = a ++ y :: b ∧ MX y = [(t, v)] ∧ ∃ e ∈ es, Region.binds .any e = true ∧ e.on = b.length) ∨ (CT t ds = false ∧ AE t tm = some v)
 | [], ti, h, t, v, hl => by simp only [Jk, Option.some.injEq] at h; subst h; simp [AE] at hl
 | u :: ts, ti, h, t, v, hl => by
  simp only [Jk] at h
  split at h
  ·cases h
  ·rename_i r hr
   split at h
   ·rename_i j x hf
    split at h
    ·rename_i hm
     cases h
     simp only [AE] at hl
     split at hl
     ·rename_i hb
      have := Nat.eq_of_beq_eq_true hb
      subst this
      cases hl
      obtain ⟨a, y, b, e1, e2, e3⟩ := In hf
      obtain ⟨e, he, hb2, hon⟩ := CL hm
      exact .inl ⟨a, y, b, e1, e2, e, he, hb2, hon.trans e3.symm⟩
     ·exact DM hr t v hl
    ·cases h
   ·split at h
    ·cases h
    ·rename_i hm
     split at h
     ·rename_i x hx
      cases h
      simp only [AE] at hl
      split at hl
      ·rename_i hb
       have := Nat.eq_of_beq_eq_true hb
       subst this
       cases hl
       exact .inr ⟨hm, hx⟩
      ·exact DM hr t v hl
     ·cases h
      exact DM hr t v hl
def SS (d : Tmp) : List It → Bool
 | [] => true
 | ⟨⟨some e, _, _, _, _, _⟩, _, _, _, _⟩ :: L => (match Nat.beq d e with
  | true => false
  | false => SS d L)
 | ⟨⟨none, _, _, _, _, _⟩, _, _, _, _⟩ :: L => SS d L
theorem F0 {d : Tmp} : ∀ {L : List It}, SS d L = true → ∀ y ∈ L, y.o.dst ≠ some d
 | [], _, y, hy => by simp at hy
 | ⟨⟨some e, _, _, _, _, _⟩, _, _, _, _⟩ :: L, h, y, hy => by
  simp only [SS] at h
  split at h
  ·cases h
  ·rename_i hb
   rcases List.mem_cons.1 hy with rfl | hy
   ·intro he; simp only [Option.some.injEq] at he; subst he; rw [Nat.beq_refl] at hb; cases hb
   ·exact F0 h y hy
 | ⟨⟨none, _, _, _, _, _⟩, _, _, _, _⟩ :: L, h, y, hy => by
  simp only [SS] at h
  rcases List.mem_cons.1 hy with rfl | hy
  ·simp
  ·exact F0 h y hy
def SM (n : Nat) : List Edge → Bool
 | [] => true
 | e :: es => match Nat.blt e.on n with
  | true => SM n es
  | false => (match Region.binds .any e with
   | true => false
   | false => SM n es)
theorem Fi {n : Nat} : ∀ {es : List Edge}, SM n es = true → ∀ e ∈ es, Region.binds .any e = true → e.on < n
 | [], _, e, he => by simp at he
 | x :: es, h, e, he => by
  simp only [SM] at h
  split at h
  ·rename_i hb
   rcases List.mem_cons.1 he with rfl | he
   ·intro _; exact D6 hb
   ·exact Fi h e he
  ·split at h
   ·cases h
   ·rename_i hb
    rcases List.mem_cons.1 he with rfl | he
    ·intro h2; rw [hb] at h2; cases h2
    ·exact Fi h e he
def GI (es : List Edge) (L : List It) : Bool := match Hf L with
 | none => true
 | some j => E5 j es
def Rm (es : List Edge) (st : List E) : List It → Prop
 | [] => True
 | ⟨_, _, _, some _, _⟩ :: L => Rm es st L
 | ⟨_, _, _, none, []⟩ :: L => Rm es st L
 | ⟨_, _, _, none, c :: rq⟩ :: L => (match E5 L.length es with
  | true => True
  | false => Kc st (c :: rq)) ∧ Rm es st L
theorem IG {es : List Edge} {st : List E} : ∀ {L : List It}, Rm es st L → ∀ a z b, L = a ++ z :: b → z.ef = none → (∃ e ∈ es, Region.binds .any e = true ∧ e.on = b.length) ∨ Kc st z.rq
 | [], _, a, z, b, hL, _ => by simp at hL
 | ⟨o, v, ti, ef, rq⟩ :: L, h, a, z, b, hL, hz => by
  cases a with
  | nil =>
   simp only [List.nil_append, List.cons.injEq] at hL
   obtain ⟨rfl, rfl⟩ := hL
   simp only at hz
   subst hz
   cases rq with
   | nil => exact .inr trivial
   | cons c rq =>
    simp only [Rm] at h
    have h1 := h.1
    split at h1
    ·rename_i hm; exact .inl (CL hm)
    ·exact .inr h1
  | cons x a =>
   simp only [List.cons_append, List.cons.injEq] at hL
   have : Rm es st L := by
    cases ef with
    | some _ => simpa only [Rm] using h
    | none => cases rq with
     | nil => simpa only [Rm] using h
     | cons c rq => simp only [Rm] at h; exact h.2
   exact IG this a z b hL.2 hz
def V4 : List Oper → List Nat
 | [] => []
 | ⟨some d, _, _, _, _, _⟩ :: l => d :: V4 l
 | ⟨none, _, _, _, _, _⟩ :: l => V4 l
section
variable {P : Program} {cx : Cx} {l rest : List Oper} {ds : List Nat} {tm0 tm : List (Nat × V)} {s0 : List E × Nat} {pn : Option Nat} {Q : VE → St → Prop} {L : List It} {st : List E} {nb : Nat}
def VH (P : Program) (cx : Cx) (l : List Oper) (ds : List Nat) (tm0 : List (Nat × V)) (s0 : List E × Nat) (pn : Option Nat) (Q : VE → St → Prop) (rest : List Oper) (L : List It) (tm : List (Nat × V)) (st : List E) (nb : Nat) : Prop :=
 Hu P cx l ds tm0 s0 pn Q L → l = L.reverse.map (·.o) ++ rest → Of s0 L = (st, nb) → Sh L ++ tm0 = tm → ∃ M, Hu P cx l ds tm0 s0 pn Q M ∧ M.reverse.map (·.o) = l ∧ (pn = none → Q .normal ⟨Sh M ++ tm0, (Of s0 M).1, (Of s0 M).2⟩)
theorem Oz : ∀ (L : List It) {n : Nat}, L.length ≤ n → Np (Array.replicate n false) L = [] ∧ ∀ s0, J9 s0 (Array.replicate n false) L = s0
 | [], _, _ => ⟨rfl, fun _ => rfl⟩
 | x :: L, n, h => by
  simp only [List.length_cons] at h
  obtain ⟨h1, h2⟩ := Oz L (n := n) (by omega)
  have : (Array.replicate n false).getD L.length true = false := by simp [Array.getD_eq_getD_getElem?, show L.length < n by omega]
  exact ⟨by simp only [Np, this, h1], fun s0 => by simp only [J9, this, h2]⟩
theorem Mz {id : Nat} (hm : P.follows .mixedOrders = true) (hp : ∀ p, pn = some p → p < l.length) (h : VH P cx l (V4 l) tm (st, nb) pn Q l [] tm st nb) : VW P cx (.region id l.toArray true) ⟨tm, st, nb⟩ Q := by
 obtain ⟨M, G, hM, hQ⟩ := h .nil rfl rfl rfl
 refine Y3 hm ?_
 have hlen : M.length = l.length := by rw [← hM]; simp
 have := SO G hM hp (fun _ _ _ h => h) hQ l.length (Array.replicate l.length false) (by simp) (fun i o ho hi => by
  have : i < l.length := (List.getElem?_eq_some_iff.1 ho).1
  simp [Array.getD_eq_getD_getElem?, this] at hi) (Nn _ _ (Nat.le_refl _)) (fun p hpp => by
  have := hp p hpp
  simp [Array.getD_eq_getD_getElem?, this])
 obtain ⟨h1, h2⟩ := Oz M (n := l.length) (by omega)
 rw [h1, h2] at this
 exact this
theorem DU {id : Nat} (hm : P.follows .mixedOrders = true) (h : VH P cx l (V4 l) tm (st, nb) none Q l [] tm st nb) : VW P cx (.region id l.toArray true) ⟨tm, st, nb⟩ Q := Mz hm (by simp) h
theorem Hx (p : Nat) {id : Nat} (hm : P.follows .mixedOrders = true) (h : VH P cx l (V4 l) tm (st, nb) (some p) Q l [] tm st nb) (hp : Nat.blt p l.length = true := by rfl) : VW P cx (.region id l.toArray true) ⟨tm, st, nb⟩ Q := Mz hm (fun q e => by cases e; exact Nat.le_of_ble_eq_true hp) h
theorem Ba (h : Q .normal ⟨tm, st, nb⟩) : VH P cx l ds tm0 s0 pn Q [] L tm st nb := fun G hl hs ht => ⟨L, G, by rw [hl]; simp, fun _ => by rw [hs, ht]; exact h⟩
theorem IA {p : Nat} : VH P cx l ds tm0 s0 (some p) Q [] L tm st nb := fun G hl hs ht => ⟨L, G, by rw [hl]; simp, fun h => by cases h⟩
theorem DC {d : Tmp} {op : Op} {ty : TypeId} {pos : String} {af : Array Edge} {v : V} {ti : List (Nat × V)} (k : VH P cx l ds tm0 s0 pn Q rest (⟨⟨some d, op, ty, pos, af, none⟩, v, ti, none, []⟩ :: L) ((d, v) :: tm) st nb)
  (hsel : Jk af.toList ds L tm0 (Ca op.operands.toList) = some ti := by rfl) (h : ∀ st nb, Bn P cx op ty ⟨ti, st, nb⟩ v := by intro st nb; first | ((with_reducible apply Qd); rfl) | ((with_reducible apply Li); rfl) | ((with_reducible apply U0); first | ((with_reducible apply NF) <;> rfl) | ((with_reducible apply NE) <;> rfl) | ((with_reducible apply Lf) <;> (first | rfl | assumption)) | ((with_reducible apply Kv) <;> rfl) | ((with_reducible apply ND); rfl; rfl; (first | rfl | assumption); rfl) | ((with_reducible apply Le); rfl; rfl; (first | rfl | assumption); exact Nat.le_of_ble_eq_true rfl)) | ((with_reducible apply U2); first | ((with_reducible apply Qh); rfl) | ((with_reducible apply Qi); rfl) | ((with_reducible apply Qg); rfl)) | ((with_reducible apply Qq); first | ((with_reducible apply ZI) <;> rfl) | ((with_reducible apply ZC) <;> rfl) | ((with_reducible apply ZD) <;> rfl) | ((with_reducible apply ZE) <;> rfl) | ((with_reducible apply ZF) <;> rfl) | ((with_reducible apply ZG) <;> rfl) | ((with_reducible apply UT); rfl; rfl; (simp only [Im]; omega)) | ((with_reducible apply UA); rfl; rfl; (simp only [Im]; omega)) | ((with_reducible apply UF); rfl; rfl; (simp only [Im]; omega)) | ((with_reducible apply Qb) <;> rfl) | ((with_reducible apply Qc) <;> rfl) | ((with_reducible apply Qm) <;> rfl) | ((with_reducible apply Qn) <;> rfl) | ((with_reducible apply UQ) <;> rfl) | ((with_reducible apply UE) <;> rfl) | ((with_reducible apply Qk); rfl; rfl; decide) | ((with_reducible apply Ql); rfl; rfl; decide) | ((with_reducible apply OV) <;> rfl) | ((with_reducible apply UD) <;> rfl) | ((with_reducible apply NL); rfl; rfl; exact fun _ => rfl) | ((with_reducible apply UP); rfl; rfl; rfl; rfl; rfl; rfl; assumption) | ((with_reducible apply P9); rfl; rfl; rfl; rfl; rfl; rfl; assumption) | ((with_reducible apply Qa); rfl; rfl; rfl; rfl; rfl; rfl; assumption) | ((with_reducible apply OU); rfl; rfl; rfl; rfl; rfl; rfl; assumption)) | ((with_reducible apply UY); first | ((with_reducible apply P3); exact FB rfl (by with_reducible rfl)) | ((with_reducible apply P4); exact FB rfl (by with_reducible rfl)) | ((with_reducible apply UC); rfl) | ((with_reducible apply P2); rfl; exact fun _ => rfl)) | ((with_reducible apply NB); exact FB rfl (by with_reducible rfl); rfl) | ((with_reducible apply NC); exact FB rfl (by with_reducible rfl); rfl) | ((with_reducible apply Qp); first | ((with_reducible apply P6); rfl) | ((with_reducible apply P8); rfl) | ((with_reducible apply P5); rfl) | ((with_reducible apply P7); rfl)) | ((with_reducible apply NN); first | ((with_reducible apply UL) <;> rfl) | ((with_reducible apply UI) <;> rfl) | ((with_reducible apply UJ) <;> rfl)) | ((with_reducible apply UO) <;> rfl) | ((with_reducible apply Qj) <;> rfl) | ((with_reducible apply UH) <;> rfl) | ((with_reducible apply UG); rfl) | ((with_reducible apply U1); first | ((with_reducible apply Qf); rfl; rfl; omega; omega) | ((with_reducible apply UN); rfl; rfl; rfl; omega; (first | rfl | assumption); (first | rfl | assumption)) | ((with_reducible apply Qe); rfl; rfl; rfl; omega; omega)) | ((with_reducible apply NK) <;> rfl) | ((with_reducible apply Lh) <;> rfl) | ((with_reducible apply UZ); first | ((with_reducible apply Lb) <;> rfl) | ((with_reducible apply Lc) <;> rfl) | ((with_reducible apply NA); rfl; rfl; rfl; rfl; (first | exact Int.le_refl _ | omega | (simp only [Option.getD]; omega)); (simp only [Option.getD]; omega); (first | exact Int.le_refl _ | (simp only [Option.getD]; omega)); (first | assumption | (simp; fail_if_success (focus skip)))) | ((with_reducible apply Jr); rfl; rfl; rfl; rfl; (first | exact Int.le_refl _ | omega); (first | exact Int.le_refl _ | omega)) | ((with_reducible apply Ld); rfl; rfl; rfl; rfl; rfl; (first | exact Int.le_refl _ | (simp only [Option.getD]; omega)); (simp only [Option.getD]; omega); (first | exact Int.le_refl _ | omega); (first | assumption | (simp; fail_if_success (focus skip))))) | ((with_reducible apply NG); rfl; rfl; rfl; rfl; omega; omega; (first | rfl | assumption)) | ((with_reducible apply NH) <;> rfl) | ((with_reducible apply Lg) <;> rfl) | ((with_reducible apply ZA) <;> rfl) | ((with_reducible apply Uz) <;> rfl) | ((with_reducible apply Qo); rfl; (first | exact .sl | exact .nil)) | ((with_reducible apply NJ); rfl; (simp only [Im]; omega)) | ((with_reducible apply NI); rfl))
  (hd' : Nat.blt d cx.N = true := by rfl) (hn : BG op = true := by rfl) (hds : CT d ds = true := by rfl) (hfa : SS d L = true := by rfl) (he : SM L.length af.toList = true := by rfl) (hpq : RA pn L.length = false := by rfl) : VH P cx l ds tm0 s0 pn Q (⟨some d, op, ty, pos, af, none⟩ :: rest) L tm st nb := fun G hl hs ht => by
 refine k (.cons G rfl (fun t v hv => ?_) (fun y hy e he2 => by simp only [Option.some.injEq] at he2; subst he2; exact F0 hfa y hy) (fun e he2 => by simp only [Option.some.injEq] at he2; subst he2; exact hds) (fun e he2 hb => Fi he e (by simpa using he2) hb) ⟨hpq, hn, ⟨d, rfl, hd'⟩, .inl rfl, fun st nb _ => h st nb⟩) (by rw [hl]; simp) ?_ ?_
 ·rcases DM hsel t v hv with ⟨a, y, b, h1, h2, e, h3, h4, h5⟩ | h
  ·exact .inl ⟨a, y, b, h1, h2, e, by simpa using h3, h4, h5⟩
  ·exact .inr h
 ·simp only [Of]; exact hs
 ·simp only [Sh, MX, List.cons_append, List.nil_append, ht]
theorem Aa8 {d : Tmp} {op : Op} {ty : TypeId} {pos : String} {af : Array Edge} {v : V} {ti : List (Nat × V)} {rq : List (Nat × Nat × V)} (k : VH P cx l ds tm0 s0 pn Q rest (⟨⟨some d, op, ty, pos, af, none⟩, v, ti, none, rq⟩ :: L) ((d, v) :: tm) st nb)
  (h : ∀ st nb, Kc st rq → Bn P cx op ty ⟨ti, st, nb⟩ v) (hnow : Kc st rq) (hsel : Jk af.toList ds L tm0 (Ca op.operands.toList) = some ti := by rfl)
  (hd' : Nat.blt d cx.N = true := by rfl) (hn : BG op = true := by rfl) (hds : CT d ds = true := by rfl) (hfa : SS d L = true := by rfl) (he : SM L.length af.toList = true := by rfl) (hla : GI af.toList L = true := by rfl) (hpq : RA pn L.length = false := by rfl) : VH P cx l ds tm0 s0 pn Q (⟨some d, op, ty, pos, af, none⟩ :: rest) L tm st nb := fun G hl hs ht => by
 refine k (.cons G rfl (fun t v hv => ?_) (fun y hy e he2 => by simp only [Option.some.injEq] at he2; subst he2; exact F0 hfa y hy) (fun e he2 => by simp only [Option.some.injEq] at he2; subst he2; exact hds) (fun e he2 hb => Fi he e (by simpa using he2) hb) ⟨hpq, hn, ⟨d, rfl, hd'⟩, .inr ⟨fun j hj => ?_, by rw [hs]; exact hnow⟩, h⟩) (by rw [hl]; simp) ?_ ?_
 ·rcases DM hsel t v hv with ⟨a, y, b, h1, h2, e, h3, h4, h5⟩ | h
  ·exact .inl ⟨a, y, b, h1, h2, e, by simpa using h3, h4, h5⟩
  ·exact .inr h
 ·unfold GI at hla
  rw [hj] at hla
  obtain ⟨e, h1, h2, h3⟩ := CL hla
  exact ⟨e, by simpa using h1, h2, h3⟩
 ·simp only [Of]; exact hs
 ·simp only [Sh, MX, List.cons_append, List.nil_append, ht]
theorem Cn {d : Tmp} {t ty : TypeId} {x : Operand} {pos : String} {af : Array Edge} {v : V} {ti : List (Nat × V)} {kk off sz : Nat} {z : List Value} [hT : Br P t false sz z] (k : VH P cx l ds tm0 s0 pn Q rest (⟨⟨some d, .load t x, ty, pos, af, none⟩, v, ti, none, [(kk, off, v)]⟩ :: L) ((d, v) :: tm) st nb)
  (hsel : Jk af.toList ds L tm0 (Ca (Op.load t x).operands.toList) = some ti := by rfl) (hx : Af ⟨ti, [], 0⟩ x = some (.ptr kk off) := by rfl) (hc : Ap kk off st = some v := by rfl)
  (hd' : Nat.blt d cx.N = true := by rfl) (hds : CT d ds = true := by rfl) (hfa : SS d L = true := by rfl) (he : SM L.length af.toList = true := by rfl) (hla : GI af.toList L = true := by rfl) (hpq : RA pn L.length = false := by rfl) : VH P cx l ds tm0 s0 pn Q (⟨some d, .load t x, ty, pos, af, none⟩ :: rest) L tm st nb :=
 Aa8 k (fun st nb hr => NF (hT := hT) (by cases x <;> exact hx) hr.1) ⟨hc, trivial⟩ hsel hd' rfl hds hfa he hla hpq
def rqs (k : Nat) : Nat → List V → List (Nat × Nat × V)
 | _, [] => []
 | o, v :: vs => (k, o, v) :: rqs k (o + 1) vs
theorem K7 {k : Nat} : ∀ {vs : List V} {o : Nat} {st : List E}, Kc st (rqs k o vs) → AM k o st vs.length = some vs
 | [], _, _, _ => rfl
 | v :: vs, o, st, h => by
  simp only [rqs, Kc] at h
  simp only [List.length_cons, AM, h.1, K7 h.2]
theorem LR {k : Nat} : ∀ {vs : List V} {o n : Nat} {st : List E}, AM k o st n = some vs → Kc st (rqs k o vs)
 | [], _, _, _, _ => trivial
 | v :: vs, o, 0, st, h => by simp [AM] at h
 | v :: vs, o, n + 1, st, h => by
  simp only [AM] at h
  split at h
  ·cases h
  ·rename_i x hx
   split at h
   ·cases h
   ·rename_i ys hy
    simp only [Option.some.injEq, List.cons.injEq] at h
    obtain ⟨rfl, rfl⟩ := h
    exact ⟨hx, LR hy⟩
theorem Bt {d : Tmp} {t ty : TypeId} {x : Operand} {pos : String} {af : Array Edge} {vs : List V} {ti : List (Nat × V)} {kk off sz : Nat} {z : List Value} [hT : Br P t true (sz + 1) z] (k : VH P cx l ds tm0 s0 pn Q rest (⟨⟨some d, .load t x, ty, pos, af, none⟩, .agg vs, ti, none, rqs kk off vs⟩ :: L) ((d, .agg vs) :: tm) st nb)
  (hsel : Jk af.toList ds L tm0 (Ca (Op.load t x).operands.toList) = some ti := by rfl) (hx : Af ⟨ti, [], 0⟩ x = some (.ptr kk off) := by rfl) (hc : AM kk off st (sz + 1) = some vs := by rfl)
  (hd' : Nat.blt d cx.N = true := by rfl) (hds : CT d ds = true := by rfl) (hfa : SS d L = true := by rfl) (he : SM L.length af.toList = true := by rfl) (hla : GI af.toList L = true := by rfl) (hpq : RA pn L.length = false := by rfl) : VH P cx l ds tm0 s0 pn Q (⟨some d, .load t x, ty, pos, af, none⟩ :: rest) L tm st nb :=
 Aa8 k (fun st nb hr => Kv (hT := hT) (by cases x <;> exact hx) (by have := K7 hr; rwa [EC hc] at this)) (LR hc) hsel hd' rfl hds hfa he hla hpq
theorem KN {d : Tmp} {op : Op} {ty : TypeId} {pos : String} {af : Array Edge} {v : V} {ti : List (Nat × V)} {st' : List E} {nb' : Nat} (h : ∀ tmX, VL P cx l [⟨some d, op, ty, pos, af, none⟩] ⟨ti ++ tmX, st, nb⟩ (OZ [(d, v)] (ti ++ tmX) (st', nb')))
  (k : VH P cx l ds tm0 s0 pn Q rest (⟨⟨some d, op, ty, pos, af, none⟩, v, ti, some (st', nb'), []⟩ :: L) ((d, v) :: tm) st' nb') (hr : Rm af.toList st' L) (hsel : Jk af.toList ds L tm0 (Ca op.operands.toList) = some ti := by rfl)
  (hds : CT d ds = true := by rfl) (hfa : SS d L = true := by rfl) (he : SM L.length af.toList = true := by rfl) (hla : GI af.toList L = true := by rfl) (hpq : RA pn L.length = false := by rfl) : VH P cx l ds tm0 s0 pn Q (⟨some d, op, ty, pos, af, none⟩ :: rest) L tm st nb := fun G hl hs ht => by
 refine k (.cons G rfl (fun t v hv => ?_) (fun y hy e he2 => by simp only [Option.some.injEq] at he2; subst he2; exact F0 hfa y hy) (fun e he2 => by simp only [Option.some.injEq] at he2; subst he2; exact hds) (fun e he2 hb => Fi he e (by simpa using he2) hb) ⟨fun j hj => ?_, fun a z b hL hz => (IG hr a z b hL hz).imp (fun ⟨e, h1, h2⟩ => ⟨e, by simpa using h1, h2⟩) id, ?_⟩) (by rw [hl]; simp) rfl ?_
 ·rcases DM hsel t v hv with ⟨a, y, b, h1, h2, e, h3, h4, h5⟩ | h
  ·exact .inl ⟨a, y, b, h1, h2, e, by simpa using h3, h4, h5⟩
  ·exact .inr h
 ·unfold GI at hla
  rw [hj] at hla
  obtain ⟨e, h1, h2, h3⟩ := CL hla
  exact ⟨e, by simpa using h1, h2, h3⟩
 ·rw [hs, hpq]; exact h
 ·simp only [Sh, MX, List.cons_append, List.nil_append, ht]
theorem Aa7 {op : Op} {ty : TypeId} {pos : String} {af : Array Edge} {ti : List (Nat × V)} {st' : List E} {nb' : Nat} (h : ∀ tmX, VL P cx l [⟨none, op, ty, pos, af, none⟩] ⟨ti ++ tmX, st, nb⟩ (OZ [] (ti ++ tmX) (st', nb')))
  (k : VH P cx l ds tm0 s0 pn Q rest (⟨⟨none, op, ty, pos, af, none⟩, .d .any, ti, some (st', nb'), []⟩ :: L) tm st' nb') (hr : Rm af.toList st' L) (hsel : Jk af.toList ds L tm0 (Ca op.operands.toList) = some ti := by rfl)
  (he : SM L.length af.toList = true := by rfl) (hla : GI af.toList L = true := by rfl) (hpq : RA pn L.length = false := by rfl) : VH P cx l ds tm0 s0 pn Q (⟨none, op, ty, pos, af, none⟩ :: rest) L tm st nb := fun G hl hs ht => by
 refine k (.cons G rfl (fun t v hv => ?_) (fun y hy e he2 => by cases he2) (fun e he2 => by cases he2) (fun e he2 hb => Fi he e (by simpa using he2) hb) ⟨fun j hj => ?_, fun a z b hL hz => (IG hr a z b hL hz).imp (fun ⟨e, h1, h2⟩ => ⟨e, by simpa using h1, h2⟩) id, ?_⟩) (by rw [hl]; simp) rfl ?_
 ·rcases DM hsel t v hv with ⟨a, y, b, h1, h2, e, h3, h4, h5⟩ | h
  ·exact .inl ⟨a, y, b, h1, h2, e, by simpa using h3, h4, h5⟩
  ·exact .inr h
 ·unfold GI at hla
  rw [hj] at hla
  obtain ⟨e, h1, h2, h3⟩ := CL hla
  exact ⟨e, by simpa using h1, h2, h3⟩
 ·rw [hs, hpq]; exact h
 ·simp only [Sh, MX, List.nil_append, ht]
def ZM (Q : VE → St → Prop) : VE → St → Prop := fun e z => e ≠ .normal ∧ Q e z
theorem Kx {v : V} {s : St} (h : Q (.panic v) s) : ZM Q (.panic v) s := ⟨by simp, h⟩
theorem Aa9 {d : Tmp} {op : Op} {ty : TypeId} {pos : String} {af : Array Edge} {v : V} {ti : List (Nat × V)} {st' : List E} {nb' : Nat} (h : ∀ tmX, VL P cx l [⟨some d, op, ty, pos, af, none⟩] ⟨ti ++ tmX, st, nb⟩ (ZM Q))
  (k : VH P cx l ds tm0 s0 pn Q rest (⟨⟨some d, op, ty, pos, af, none⟩, v, ti, some (st', nb'), []⟩ :: L) ((d, v) :: tm) st' nb') (hr : Rm af.toList st' L) (hsel : Jk af.toList ds L tm0 (Ca op.operands.toList) = some ti := by rfl)
  (hds : CT d ds = true := by rfl) (hfa : SS d L = true := by rfl) (he : SM L.length af.toList = true := by rfl) (hla : GI af.toList L = true := by rfl) (hpq : RA pn L.length = true := by rfl) : VH P cx l ds tm0 s0 pn Q (⟨some d, op, ty, pos, af, none⟩ :: rest) L tm st nb := fun G hl hs ht => by
 refine k (.cons G rfl (fun t v hv => ?_) (fun y hy e he2 => by simp only [Option.some.injEq] at he2; subst he2; exact F0 hfa y hy) (fun e he2 => by simp only [Option.some.injEq] at he2; subst he2; exact hds) (fun e he2 hb => Fi he e (by simpa using he2) hb) ⟨fun j hj => ?_, fun a z b hL hz => (IG hr a z b hL hz).imp (fun ⟨e, h1, h2⟩ => ⟨e, by simpa using h1, h2⟩) id, ?_⟩) (by rw [hl]; simp) rfl ?_
 ·rcases DM hsel t v hv with ⟨a, y, b, h1, h2, e, h3, h4, h5⟩ | h
  ·exact .inl ⟨a, y, b, h1, h2, e, by simpa using h3, h4, h5⟩
  ·exact .inr h
 ·unfold GI at hla
  rw [hj] at hla
  obtain ⟨e, h1, h2, h3⟩ := CL hla
  exact ⟨e, by simpa using h1, h2, h3⟩
 ·rw [hs, hpq]; exact h
 ·simp only [Sh, MX, List.cons_append, List.nil_append, ht]
theorem CZ {d : Tmp} {v : V} {tmX : List (Nat × V)} : OZ [(d, v)] tmX (st, nb) .normal ⟨(d, v) :: tmX, st, nb⟩ := ⟨rfl, rfl⟩
theorem O2 {tmX : List (Nat × V)} : OZ [] tmX (st, nb) .normal ⟨tmX, st, nb⟩ := ⟨rfl, rfl⟩
end

theorem M5 {ti tmX : List (Nat × V)} {st st' : List E} {nb nb' : Nat} {x : Operand} {v : V} (h : Af ⟨ti, st, nb⟩ x = some v) : Af ⟨ti ++ tmX, st', nb'⟩ x = some v := by
 cases x with
 | tmp t =>
  simp only [Af] at h ⊢
  split at h
  ·rename_i u hu
   rw [BN, hu]; exact h
  ·cases h
 | _ => exact h
theorem Vw {v : V} {l : List V} (h : Co v = true) (k : BH l = true) : BH (v :: l) = true := by simp only [BH, h, k]
section
variable {P : Program} {cx : Cx} {l rest : List Oper} {ds : List Nat} {tm0 tm : List (Nat × V)} {s0 : List E × Nat} {pn : Option Nat} {Q : VE → St → Prop} {L : List It} {st : List E} {nb : Nat}
theorem Ct {t ty : TypeId} {x y : Operand} {pos : String} {af : Array Edge} {ti : List (Nat × V)} {kk off sz : Nat} {ag : Bool} {z : List Value} {v : V} {vs old : List V} [hT : Br P t ag (sz + 1) z]
  (k : VH P cx l ds tm0 s0 pn Q rest (⟨⟨none, .store t x y, ty, pos, af, none⟩, .d .any, ti, some (.c kk off vs :: st, nb), []⟩ :: L) tm (.c kk off vs :: st) nb)
  (hsel : Jk af.toList ds L tm0 (Ca (Op.store t x y).operands.toList) = some ti := by rfl) (hx : Af ⟨ti, [], 0⟩ x = some (.ptr kk off) := by rfl) (hy : Af ⟨ti, [], 0⟩ y = some v := by rfl) (hv : Bm v = some vs := by rfl) (hl : vs.length = sz + 1 := by rfl) (h1 : BH vs = true := by first | rfl | (repeat (first | exact rfl | refine Vw (by first | rfl | assumption) ?_)))
  (hold : AM kk off st (sz + 1) = some old := by rfl) (hr : Rm af.toList (.c kk off vs :: st) L := by repeat' (first | exact trivial | exact rfl | refine ⟨?_, ?_⟩))
  (he : SM L.length af.toList = true := by rfl) (hla : GI af.toList L = true := by rfl) (hpq : RA pn L.length = false := by rfl) : VH P cx l ds tm0 s0 pn Q (⟨none, .store t x y, ty, pos, af, none⟩ :: rest) L tm st nb :=
 Aa7 (fun tmX => WD (PL (O2 (tmX := ti ++ tmX))) (FT (M5 hx) (M5 hy) hv hl h1 hold) (hw := trivial) (hn := rfl)) k hr hsel he hla hpq
theorem Nl (v : V) {d : Tmp} {op : Op} {ty : TypeId} {pos : String} {af : Array Edge} {ti : List (Nat × V)} (h : ∀ tmX, VL P cx l [⟨some d, op, ty, pos, af, none⟩] ⟨ti ++ tmX, st, nb⟩ (ZM Q))
  (k : VH P cx l ds tm0 s0 pn Q rest (⟨⟨some d, op, ty, pos, af, none⟩, v, ti, some (st, nb), []⟩ :: L) ((d, v) :: tm) st nb) (hr : Rm af.toList st L := by repeat' (first | exact trivial | exact rfl | refine ⟨?_, ?_⟩)) (hsel : Jk af.toList ds L tm0 (Ca op.operands.toList) = some ti := by rfl)
  (hds : CT d ds = true := by rfl) (hfa : SS d L = true := by rfl) (he : SM L.length af.toList = true := by rfl) (hla : GI af.toList L = true := by rfl) (hpq : RA pn L.length = true := by rfl) : VH P cx l ds tm0 s0 pn Q (⟨some d, op, ty, pos, af, none⟩ :: rest) L tm st nb := Aa9 h k hr hsel hds hfa he hla hpq
end

end Go.Proofs.YtbgcjnfhadhjeaaGreat