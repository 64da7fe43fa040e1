/- Walks by data and names, part 39: Walks of regions that draw their order by XVChain: operation by operation, in the text's order. Chains: a store. The program's frames, by V: the same, plain; parts and numbers of octets; ids that rise. -/
import Derived.Test.YtbgcjnfhadhjeaaGreatQk38
import Derived.Test.YtbgcjnfhadhjeaaGreatQk23
import Derived.Test.YtbgcjnfhadhjeaaGreatQk37
import Derived.Test.YtbgcjnfhadhjeaaGreatQk28
import Derived.Test.YtbgcjnfhadhjeaaGreatQk31
namespace Go.Proofs.YtbgcjnfhadhjeaaGreat
set_option maxRecDepth 20000
open Go.RowKit
def LC (t : Tmp) : List It → Option (Nat × V)
 | [] => none
 | ⟨⟨some d, _, _, _, _, _⟩, v, _, _, _⟩ :: L => (match Nat.beq t d with
  | true => some (L.length, v)
  | false => LC t L)
 | ⟨⟨none, _, _, _, _, _⟩, _, _, _, _⟩ :: L => LC t L
def Jt (es : List Edge) (ds : List Nat) (L : List It) (tm : List (Nat × V)) : List Tmp → Option (List (Nat × V))
 | [] => some []
 | t :: ts => match Jt es ds L tm ts with
  | none => none
  | some r => (match LC t L with
   | some (j, v) => (match E8 j es with
    | true => some ((t, v) :: r)
    | false => none)
   | none => (match C5 t ds with
    | true => none
    | false => (match AA t tm with
     | some v => some ((t, v) :: r)
     | none => some r)))
theorem Iy {t : Tmp} : ∀ {L : List It} {j : Nat} {v : V}, LC t L = some (j, v) → ∃ a y b, L = a ++ y :: b ∧ MP y = [(t, v)] ∧ b.length = j
 | [], _, _, h => by simp [LC] at h
 | x :: L, j, v, h => by
  obtain ⟨⟨dst, op, ty, pos, af, gd⟩, xv, ti, ef, rq⟩ := x
  cases dst with
  | none =>
   simp only [LC] at h
   obtain ⟨a, y, b, rfl, h1, h2⟩ := Iy h
   exact ⟨_ :: a, y, b, rfl, h1, h2⟩
  | some d =>
   simp only [LC] at h
   split at h
   ·rename_i hb
    have := Nat.eq_of_beq_eq_true hb
    subst this
    cases h
    exact ⟨[], _, L, rfl, rfl, rfl⟩
   ·obtain ⟨a, y, b, rfl, h1, h2⟩ := Iy h
    exact ⟨_ :: a, y, b, rfl, h1, h2⟩
theorem DV {es : List Edge} {ds : List Nat} {L : List It} {tm : List (Nat × V)} : ∀ {ts : List Tmp} {ti : List (Nat × V)}, Jt es ds L tm ts = some ti → ∀ t v, AA t ti = some v →
  (∃ a y b, L = a ++ y :: b ∧ MP y = [(t, v)] ∧ ∃ e ∈ es, Region.binds .any e = true ∧ e.on = b.length) ∨ (C5 t ds = false ∧ AA t tm = some v)
 | [], ti, h, t, v, hl => by simp only [Jt, Option.some.injEq] at h; subst h; simp [AA] at hl
 | u :: ts, ti, h, t, v, hl => by
  simp only [Jt] at h
  split at h
  ·cases h
  ·rename_i r hr
   split at h
   ·rename_i j x hf
    split at h
    ·rename_i hm
     cases h
     simp only [AA] at hl
     split at hl
     ·rename_i hb
      have := Nat.eq_of_beq_eq_true hb
      subst this
      cases hl
      obtain ⟨a, y, b, e1, e2, e3⟩ := Iy hf
      obtain ⟨e, he, hb2, hon⟩ := C1 hm
      exact .inl ⟨a, y, b, e1, e2, e, he, hb2, hon.trans e3.symm⟩
     ·exact DV hr t v hl
    ·cases h
   ·split at h
    ·cases h
    ·rename_i hm
     split at h
     ·rename_i x hx
      cases h
      simp only [AA] at hl
      split at hl
      ·rename_i hb
       have := Nat.eq_of_beq_eq_true hb
       subst this
       cases hl
       exact .inr ⟨hm, hx⟩
      ·exact DV hr t v hl
     ·cases h
      exact DV hr t v hl
def SN (d : Tmp) : List It → Bool
 | [] => true
 | ⟨⟨some e, _, _, _, _, _⟩, _, _, _, _⟩ :: L => (match Nat.beq d e with
  | true => false
  | false => SN d L)
 | ⟨⟨none, _, _, _, _, _⟩, _, _, _, _⟩ :: L => SN d L
theorem F9 {d : Tmp} : ∀ {L : List It}, SN d L = true → ∀ y ∈ L, y.o.dst ≠ some d
 | [], _, y, hy => by simp at hy
 | ⟨⟨some e, _, _, _, _, _⟩, _, _, _, _⟩ :: L, h, y, hy => by
  simp only [SN] at h
  split at h
  ·cases h
  ·rename_i hb
   rcases List.mem_cons.1 hy with rfl | hy
   ·intro he; simp only [Option.some.injEq] at he; subst he; rw [Nat.beq_refl] at hb; cases hb
   ·exact F9 h y hy
 | ⟨⟨none, _, _, _, _, _⟩, _, _, _, _⟩ :: L, h, y, hy => by
  simp only [SN] at h
  rcases List.mem_cons.1 hy with rfl | hy
  ·simp
  ·exact F9 h y hy
def SG (n : Nat) : List Edge → Bool
 | [] => true
 | e :: es => match Nat.blt e.on n with
  | true => SG n es
  | false => (match Region.binds .any e with
   | true => false
   | false => SG n es)
theorem Fp {n : Nat} : ∀ {es : List Edge}, SG n es = true → ∀ e ∈ es, Region.binds .any e = true → e.on < n
 | [], _, e, he => by simp at he
 | x :: es, h, e, he => by
  simp only [SG] at h
  split at h
  ·rename_i hb
   rcases List.mem_cons.1 he with rfl | he
   ·intro _; exact Eg hb
   ·exact Fp h e he
  ·split at h
   ·cases h
   ·rename_i hb
    rcases List.mem_cons.1 he with rfl | he
    ·intro h2; rw [hb] at h2; cases h2
    ·exact Fp h e he
def GW (es : List Edge) (L : List It) : Bool := match Hs L with
 | none => true
 | some j => E8 j es
def Q3 (es : List Edge) (st : List E) : List It → Prop
 | [] => True
 | ⟨_, _, _, some _, _⟩ :: L => Q3 es st L
 | ⟨_, _, _, none, []⟩ :: L => Q3 es st L
 | ⟨_, _, _, none, c :: rq⟩ :: L => (match E8 L.length es with
  | true => True
  | false => Kg st (c :: rq)) ∧ Q3 es st L
theorem IR {es : List Edge} {st : List E} : ∀ {L : List It}, Q3 es st L → ∀ a z b, L = a ++ z :: b → z.ef = none → (∃ e ∈ es, Region.binds .any e = true ∧ e.on = b.length) ∨ Kg st z.rq
 | [], _, a, z, b, hL, _ => by simp at hL
 | ⟨o, v, ti, ef, rq⟩ :: L, h, a, z, b, hL, hz => by
  cases a with
  | nil =>
   simp only [List.nil_append, List.cons.injEq] at hL
   obtain ⟨rfl, rfl⟩ := hL
   simp only at hz
   subst hz
   cases rq with
   | nil => exact .inr trivial
   | cons c rq =>
    simp only [Q3] at h
    have h1 := h.1
    split at h1
    ·rename_i hm; exact .inl (C1 hm)
    ·exact .inr h1
  | cons x a =>
   simp only [List.cons_append, List.cons.injEq] at hL
   have : Q3 es st L := by
    cases ef with
    | some _ => simpa only [Q3] using h
    | none => cases rq with
     | nil => simpa only [Q3] using h
     | cons c rq => simp only [Q3] at h; exact h.2
   exact IR this a z b hL.2 hz
def VX : List Oper → List Nat
 | [] => []
 | ⟨some d, _, _, _, _, _⟩ :: l => d :: VX l
 | ⟨none, _, _, _, _, _⟩ :: l => VX l
section
variable {P : Program} {cx : Cx} {l rest : List Oper} {ds : List Nat} {tm0 tm : List (Nat × V)} {s0 : List E × Nat} {pn : Option Nat} {Q : VE → St → Prop} {L : List It} {st : List E} {nb : Nat}
def VH (P : Program) (cx : Cx) (l : List Oper) (ds : List Nat) (tm0 : List (Nat × V)) (s0 : List E × Nat) (pn : Option Nat) (Q : VE → St → Prop) (rest : List Oper) (L : List It) (tm : List (Nat × V)) (st : List E) (nb : Nat) : Prop :=
 HG P cx l ds tm0 s0 pn Q L → l = L.reverse.map (·.o) ++ rest → N6 s0 L = (st, nb) → R0 L ++ tm0 = tm → ∃ M, HG P cx l ds tm0 s0 pn Q M ∧ M.reverse.map (·.o) = l ∧ (pn = none → Q .normal ⟨R0 M ++ tm0, (N6 s0 M).1, (N6 s0 M).2⟩)
theorem On : ∀ (L : List It) {n : Nat}, L.length ≤ n → Ni (Array.replicate n false) L = [] ∧ ∀ s0, Kd s0 (Array.replicate n false) L = s0
 | [], _, _ => ⟨rfl, fun _ => rfl⟩
 | x :: L, n, h => by
  simp only [List.length_cons] at h
  obtain ⟨h1, h2⟩ := On L (n := n) (by omega)
  have : (Array.replicate n false).getD L.length true = false := by simp [Array.getD_eq_getD_getElem?, show L.length < n by omega]
  exact ⟨by simp only [Ni, this, h1], fun s0 => by simp only [Kd, this, h2]⟩
theorem Ms {id : Nat} (hm : P.follows .mixedOrders = true) (hp : ∀ p, pn = some p → p < l.length) (h : VH P cx l (VX l) tm (st, nb) pn Q l [] tm st nb) : VW P cx (.region id l.toArray true) ⟨tm, st, nb⟩ Q := by
 obtain ⟨M, G, hM, hQ⟩ := h .nil rfl rfl rfl
 refine Za hm ?_
 have hlen : M.length = l.length := by rw [← hM]; simp
 have := SJ G hM hp (fun _ _ _ h => h) hQ l.length (Array.replicate l.length false) (by simp) (fun i o ho hi => by
  have : i < l.length := (List.getElem?_eq_some_iff.1 ho).1
  simp [Array.getD_eq_getD_getElem?, this] at hi) (Ng _ _ (Nat.le_refl _)) (fun p hpp => by
  have := hp p hpp
  simp [Array.getD_eq_getD_getElem?, this])
 obtain ⟨h1, h2⟩ := On M (n := l.length) (by omega)
 rw [h1, h2] at this
 exact this
theorem D5 {id : Nat} (hm : P.follows .mixedOrders = true) (h : VH P cx l (VX l) tm (st, nb) none Q l [] tm st nb) : VW P cx (.region id l.toArray true) ⟨tm, st, nb⟩ Q := Ms hm (by simp) h
theorem HJ (p : Nat) {id : Nat} (hm : P.follows .mixedOrders = true) (h : VH P cx l (VX l) tm (st, nb) (some p) Q l [] tm st nb) (hp : Nat.blt p l.length = true := by rfl) : VW P cx (.region id l.toArray true) ⟨tm, st, nb⟩ Q := Ms hm (fun q e => by cases e; exact Nat.le_of_ble_eq_true hp) h
theorem Bc (h : Q .normal ⟨tm, st, nb⟩) : VH P cx l ds tm0 s0 pn Q [] L tm st nb := fun G hl hs ht => ⟨L, G, by rw [hl]; simp, fun _ => by rw [hs, ht]; exact h⟩
theorem IK {p : Nat} : VH P cx l ds tm0 s0 (some p) Q [] L tm st nb := fun G hl hs ht => ⟨L, G, by rw [hl]; simp, fun h => by cases h⟩
theorem DO {d : Tmp} {op : Op} {ty : TypeId} {pos : String} {af : Array Edge} {v : V} {ti : List (Nat × V)} (k : VH P cx l ds tm0 s0 pn Q rest (⟨⟨some d, op, ty, pos, af, none⟩, v, ti, none, []⟩ :: L) ((d, v) :: tm) st nb)
  (hsel : Jt af.toList ds L tm0 (Ct op.operands.toList) = some ti := by rfl) (h : ∀ st nb, Bq P cx op ty ⟨ti, st, nb⟩ v := by intro st nb; first | ((with_reducible apply P0); rfl) | ((with_reducible apply Lj); rfl) | ((with_reducible apply UY); first | ((with_reducible apply NA) <;> rfl) | ((with_reducible apply Nz) <;> rfl) | ((with_reducible apply Lg) <;> (first | rfl | assumption)) | ((with_reducible apply Kr) <;> rfl) | ((with_reducible apply Ny); rfl; rfl; (first | rfl | assumption); rfl) | ((with_reducible apply Lf); rfl; rfl; (first | rfl | assumption); exact Nat.le_of_ble_eq_true rfl)) | ((with_reducible apply U0); first | ((with_reducible apply P4); rfl) | ((with_reducible apply P5); rfl) | ((with_reducible apply P3); rfl)) | ((with_reducible apply Qd); first | ((with_reducible apply ZX) <;> rfl) | ((with_reducible apply ZR) <;> rfl) | ((with_reducible apply ZS) <;> rfl) | ((with_reducible apply ZT) <;> rfl) | ((with_reducible apply ZU) <;> rfl) | ((with_reducible apply ZV) <;> rfl) | ((with_reducible apply UR); rfl; rfl; (simp only [I6]; omega)) | ((with_reducible apply Ux); rfl; rfl; (simp only [I6]; omega)) | ((with_reducible apply UD); rfl; rfl; (simp only [I6]; omega)) | ((with_reducible apply PY) <;> rfl) | ((with_reducible apply PZ) <;> rfl) | ((with_reducible apply P9) <;> rfl) | ((with_reducible apply Qa) <;> rfl) | ((with_reducible apply UO) <;> rfl) | ((with_reducible apply UC) <;> rfl) | ((with_reducible apply P7); rfl; rfl; decide) | ((with_reducible apply P8); rfl; rfl; decide) | ((with_reducible apply OQ) <;> rfl) | ((with_reducible apply UB) <;> rfl) | ((with_reducible apply NG); rfl; rfl; exact fun _ => rfl) | ((with_reducible apply UN); rfl; rfl; rfl; rfl; rfl; rfl; assumption) | ((with_reducible apply PW); rfl; rfl; rfl; rfl; rfl; rfl; assumption) | ((with_reducible apply PX); rfl; rfl; rfl; rfl; rfl; rfl; assumption) | ((with_reducible apply OP); rfl; rfl; rfl; rfl; rfl; rfl; assumption)) | ((with_reducible apply UW); first | ((with_reducible apply PQ); exact FG rfl (by with_reducible rfl)) | ((with_reducible apply PR); exact FG rfl (by with_reducible rfl)) | ((with_reducible apply UA); rfl) | ((with_reducible apply PP); rfl; exact fun _ => rfl)) | ((with_reducible apply Nv); exact FG rfl (by with_reducible rfl); rfl) | ((with_reducible apply Nx); exact FG rfl (by with_reducible rfl); rfl) | ((with_reducible apply Qc); first | ((with_reducible apply PT); rfl) | ((with_reducible apply PV); rfl) | ((with_reducible apply PS); rfl) | ((with_reducible apply PU); rfl)) | ((with_reducible apply NI); first | ((with_reducible apply UJ) <;> rfl) | ((with_reducible apply UG) <;> rfl) | ((with_reducible apply UH) <;> rfl)) | ((with_reducible apply UM) <;> rfl) | ((with_reducible apply P6) <;> rfl) | ((with_reducible apply UF) <;> rfl) | ((with_reducible apply UE); rfl) | ((with_reducible apply UZ); first | ((with_reducible apply P2); rfl; rfl; omega; omega) | ((with_reducible apply UL); rfl; rfl; rfl; omega; (first | rfl | assumption); (first | rfl | assumption)) | ((with_reducible apply P1); rfl; rfl; rfl; omega; omega)) | ((with_reducible apply NF) <;> rfl) | ((with_reducible apply Li) <;> rfl) | ((with_reducible apply UX); first | ((with_reducible apply Lc) <;> rfl) | ((with_reducible apply Ld) <;> rfl) | ((with_reducible apply Nu); rfl; rfl; rfl; rfl; (first | exact Int.le_refl _ | omega | (simp only [Option.getD]; omega)); (simp only [Option.getD]; omega); (first | exact Int.le_refl _ | (simp only [Option.getD]; omega)); (first | assumption | (simp; fail_if_success (focus skip)))) | ((with_reducible apply Jz); rfl; rfl; rfl; rfl; (first | exact Int.le_refl _ | omega); (first | exact Int.le_refl _ | omega)) | ((with_reducible apply Le); rfl; rfl; rfl; rfl; rfl; (first | exact Int.le_refl _ | (simp only [Option.getD]; omega)); (simp only [Option.getD]; omega); (first | exact Int.le_refl _ | omega); (first | assumption | (simp; fail_if_success (focus skip))))) | ((with_reducible apply NB); rfl; rfl; rfl; rfl; omega; omega; (first | rfl | assumption)) | ((with_reducible apply NC) <;> rfl) | ((with_reducible apply Lh) <;> rfl) | ((with_reducible apply ZP) <;> rfl) | ((with_reducible apply Uw) <;> rfl) | ((with_reducible apply Qb); rfl; (first | exact .sl | exact .nil)) | ((with_reducible apply NE); rfl; (simp only [I6]; omega)) | ((with_reducible apply ND); rfl))
  (hd' : Nat.blt d cx.N = true := by rfl) (hn : BS op = true := by rfl) (hds : C5 d ds = true := by rfl) (hfa : SN d L = true := by rfl) (he : SG L.length af.toList = true := by rfl) (hpq : Ri pn L.length = false := by rfl) : VH P cx l ds tm0 s0 pn Q (⟨some d, op, ty, pos, af, none⟩ :: rest) L tm st nb := fun G hl hs ht => by
 refine k (.cons G rfl (fun t v hv => ?_) (fun y hy e he2 => by simp only [Option.some.injEq] at he2; subst he2; exact F9 hfa y hy) (fun e he2 => by simp only [Option.some.injEq] at he2; subst he2; exact hds) (fun e he2 hb => Fp he e (by simpa using he2) hb) ⟨hpq, hn, ⟨d, rfl, hd'⟩, .inl rfl, fun st nb _ => h st nb⟩) (by rw [hl]; simp) ?_ ?_
 ·rcases DV hsel t v hv with ⟨a, y, b, h1, h2, e, h3, h4, h5⟩ | h
  ·exact .inl ⟨a, y, b, h1, h2, e, by simpa using h3, h4, h5⟩
  ·exact .inr h
 ·simp only [N6]; exact hs
 ·simp only [R0, MP, List.cons_append, List.nil_append, ht]
theorem Abp {d : Tmp} {op : Op} {ty : TypeId} {pos : String} {af : Array Edge} {v : V} {ti : List (Nat × V)} {rq : List (Nat × Nat × V)} (k : VH P cx l ds tm0 s0 pn Q rest (⟨⟨some d, op, ty, pos, af, none⟩, v, ti, none, rq⟩ :: L) ((d, v) :: tm) st nb)
  (h : ∀ st nb, Kg st rq → Bq P cx op ty ⟨ti, st, nb⟩ v) (hnow : Kg st rq) (hsel : Jt af.toList ds L tm0 (Ct op.operands.toList) = some ti := by rfl)
  (hd' : Nat.blt d cx.N = true := by rfl) (hn : BS op = true := by rfl) (hds : C5 d ds = true := by rfl) (hfa : SN d L = true := by rfl) (he : SG L.length af.toList = true := by rfl) (hla : GW af.toList L = true := by rfl) (hpq : Ri pn L.length = false := by rfl) : VH P cx l ds tm0 s0 pn Q (⟨some d, op, ty, pos, af, none⟩ :: rest) L tm st nb := fun G hl hs ht => by
 refine k (.cons G rfl (fun t v hv => ?_) (fun y hy e he2 => by simp only [Option.some.injEq] at he2; subst he2; exact F9 hfa y hy) (fun e he2 => by simp only [Option.some.injEq] at he2; subst he2; exact hds) (fun e he2 hb => Fp he e (by simpa using he2) hb) ⟨hpq, hn, ⟨d, rfl, hd'⟩, .inr ⟨fun j hj => ?_, by rw [hs]; exact hnow⟩, h⟩) (by rw [hl]; simp) ?_ ?_
 ·rcases DV hsel t v hv with ⟨a, y, b, h1, h2, e, h3, h4, h5⟩ | h
  ·exact .inl ⟨a, y, b, h1, h2, e, by simpa using h3, h4, h5⟩
  ·exact .inr h
 ·unfold GW at hla
  rw [hj] at hla
  obtain ⟨e, h1, h2, h3⟩ := C1 hla
  exact ⟨e, by simpa using h1, h2, h3⟩
 ·simp only [N6]; exact hs
 ·simp only [R0, MP, List.cons_append, List.nil_append, ht]
theorem CJ {d : Tmp} {t ty : TypeId} {x : Operand} {pos : String} {af : Array Edge} {v : V} {ti : List (Nat × V)} {kk off sz : Nat} {z : List Value} [hT : BE P t false sz z] (k : VH P cx l ds tm0 s0 pn Q rest (⟨⟨some d, .load t x, ty, pos, af, none⟩, v, ti, none, [(kk, off, v)]⟩ :: L) ((d, v) :: tm) st nb)
  (hsel : Jt af.toList ds L tm0 (Ct (Op.load t x).operands.toList) = some ti := by rfl) (hx : Af ⟨ti, [], 0⟩ x = some (.ptr kk off) := by rfl) (hc : Aq kk off st = some v := by rfl)
  (hd' : Nat.blt d cx.N = true := by rfl) (hds : C5 d ds = true := by rfl) (hfa : SN d L = true := by rfl) (he : SG L.length af.toList = true := by rfl) (hla : GW af.toList L = true := by rfl) (hpq : Ri pn L.length = false := by rfl) : VH P cx l ds tm0 s0 pn Q (⟨some d, .load t x, ty, pos, af, none⟩ :: rest) L tm st nb :=
 Abp k (fun st nb hr => NA (hT := hT) (by cases x <;> exact hx) hr.1) ⟨hc, trivial⟩ hsel hd' rfl hds hfa he hla hpq
def rqs (k : Nat) : Nat → List V → List (Nat × Nat × V)
 | _, [] => []
 | o, v :: vs => (k, o, v) :: rqs k (o + 1) vs
theorem K5 {k : Nat} : ∀ {vs : List V} {o : Nat} {st : List E}, Kg st (rqs k o vs) → AM k o st vs.length = some vs
 | [], _, _, _ => rfl
 | v :: vs, o, st, h => by
  simp only [rqs, Kg] at h
  simp only [List.length_cons, AM, h.1, K5 h.2]
theorem LM {k : Nat} : ∀ {vs : List V} {o n : Nat} {st : List E}, AM k o st n = some vs → Kg st (rqs k o vs)
 | [], _, _, _, _ => trivial
 | v :: vs, o, 0, st, h => by simp [AM] at h
 | v :: vs, o, n + 1, st, h => by
  simp only [AM] at h
  split at h
  ·cases h
  ·rename_i x hx
   split at h
   ·cases h
   ·rename_i ys hy
    simp only [Option.some.injEq, List.cons.injEq] at h
    obtain ⟨rfl, rfl⟩ := h
    exact ⟨hx, LM hy⟩
theorem BJ {d : Tmp} {t ty : TypeId} {x : Operand} {pos : String} {af : Array Edge} {vs : List V} {ti : List (Nat × V)} {kk off sz : Nat} {z : List Value} [hT : BE P t true (sz + 1) z] (k : VH P cx l ds tm0 s0 pn Q rest (⟨⟨some d, .load t x, ty, pos, af, none⟩, .agg vs, ti, none, rqs kk off vs⟩ :: L) ((d, .agg vs) :: tm) st nb)
  (hsel : Jt af.toList ds L tm0 (Ct (Op.load t x).operands.toList) = some ti := by rfl) (hx : Af ⟨ti, [], 0⟩ x = some (.ptr kk off) := by rfl) (hc : AM kk off st (sz + 1) = some vs := by rfl)
  (hd' : Nat.blt d cx.N = true := by rfl) (hds : C5 d ds = true := by rfl) (hfa : SN d L = true := by rfl) (he : SG L.length af.toList = true := by rfl) (hla : GW af.toList L = true := by rfl) (hpq : Ri pn L.length = false := by rfl) : VH P cx l ds tm0 s0 pn Q (⟨some d, .load t x, ty, pos, af, none⟩ :: rest) L tm st nb :=
 Abp k (fun st nb hr => Kr (hT := hT) (by cases x <;> exact hx) (by have := K5 hr; rwa [EM hc] at this)) (LM hc) hsel hd' rfl hds hfa he hla hpq
theorem KL {d : Tmp} {op : Op} {ty : TypeId} {pos : String} {af : Array Edge} {v : V} {ti : List (Nat × V)} {st' : List E} {nb' : Nat} (h : ∀ tmX, VL P cx l [⟨some d, op, ty, pos, af, none⟩] ⟨ti ++ tmX, st, nb⟩ (OU [(d, v)] (ti ++ tmX) (st', nb')))
  (k : VH P cx l ds tm0 s0 pn Q rest (⟨⟨some d, op, ty, pos, af, none⟩, v, ti, some (st', nb'), []⟩ :: L) ((d, v) :: tm) st' nb') (hr : Q3 af.toList st' L) (hsel : Jt af.toList ds L tm0 (Ct op.operands.toList) = some ti := by rfl)
  (hds : C5 d ds = true := by rfl) (hfa : SN d L = true := by rfl) (he : SG L.length af.toList = true := by rfl) (hla : GW af.toList L = true := by rfl) (hpq : Ri pn L.length = false := by rfl) : VH P cx l ds tm0 s0 pn Q (⟨some d, op, ty, pos, af, none⟩ :: rest) L tm st nb := fun G hl hs ht => by
 refine k (.cons G rfl (fun t v hv => ?_) (fun y hy e he2 => by simp only [Option.some.injEq] at he2; subst he2; exact F9 hfa y hy) (fun e he2 => by simp only [Option.some.injEq] at he2; subst he2; exact hds) (fun e he2 hb => Fp he e (by simpa using he2) hb) ⟨fun j hj => ?_, fun a z b hL hz => (IR hr a z b hL hz).imp (fun ⟨e, h1, h2⟩ => ⟨e, by simpa using h1, h2⟩) id, ?_⟩) (by rw [hl]; simp) rfl ?_
 ·rcases DV hsel t v hv with ⟨a, y, b, h1, h2, e, h3, h4, h5⟩ | h
  ·exact .inl ⟨a, y, b, h1, h2, e, by simpa using h3, h4, h5⟩
  ·exact .inr h
 ·unfold GW at hla
  rw [hj] at hla
  obtain ⟨e, h1, h2, h3⟩ := C1 hla
  exact ⟨e, by simpa using h1, h2, h3⟩
 ·rw [hs, hpq]; exact h
 ·simp only [R0, MP, List.cons_append, List.nil_append, ht]
theorem Abo {op : Op} {ty : TypeId} {pos : String} {af : Array Edge} {ti : List (Nat × V)} {st' : List E} {nb' : Nat} (h : ∀ tmX, VL P cx l [⟨none, op, ty, pos, af, none⟩] ⟨ti ++ tmX, st, nb⟩ (OU [] (ti ++ tmX) (st', nb')))
  (k : VH P cx l ds tm0 s0 pn Q rest (⟨⟨none, op, ty, pos, af, none⟩, .d .any, ti, some (st', nb'), []⟩ :: L) tm st' nb') (hr : Q3 af.toList st' L) (hsel : Jt af.toList ds L tm0 (Ct op.operands.toList) = some ti := by rfl)
  (he : SG L.length af.toList = true := by rfl) (hla : GW af.toList L = true := by rfl) (hpq : Ri pn L.length = false := by rfl) : VH P cx l ds tm0 s0 pn Q (⟨none, op, ty, pos, af, none⟩ :: rest) L tm st nb := fun G hl hs ht => by
 refine k (.cons G rfl (fun t v hv => ?_) (fun y hy e he2 => by cases he2) (fun e he2 => by cases he2) (fun e he2 hb => Fp he e (by simpa using he2) hb) ⟨fun j hj => ?_, fun a z b hL hz => (IR hr a z b hL hz).imp (fun ⟨e, h1, h2⟩ => ⟨e, by simpa using h1, h2⟩) id, ?_⟩) (by rw [hl]; simp) rfl ?_
 ·rcases DV hsel t v hv with ⟨a, y, b, h1, h2, e, h3, h4, h5⟩ | h
  ·exact .inl ⟨a, y, b, h1, h2, e, by simpa using h3, h4, h5⟩
  ·exact .inr h
 ·unfold GW at hla
  rw [hj] at hla
  obtain ⟨e, h1, h2, h3⟩ := C1 hla
  exact ⟨e, by simpa using h1, h2, h3⟩
 ·rw [hs, hpq]; exact h
 ·simp only [R0, MP, List.nil_append, ht]
def Z1 (Q : VE → St → Prop) : VE → St → Prop := fun e z => e ≠ .normal ∧ Q e z
theorem Kt {v : V} {s : St} (h : Q (.panic v) s) : Z1 Q (.panic v) s := ⟨by simp, h⟩
theorem Abq {d : Tmp} {op : Op} {ty : TypeId} {pos : String} {af : Array Edge} {v : V} {ti : List (Nat × V)} {st' : List E} {nb' : Nat} (h : ∀ tmX, VL P cx l [⟨some d, op, ty, pos, af, none⟩] ⟨ti ++ tmX, st, nb⟩ (Z1 Q))
  (k : VH P cx l ds tm0 s0 pn Q rest (⟨⟨some d, op, ty, pos, af, none⟩, v, ti, some (st', nb'), []⟩ :: L) ((d, v) :: tm) st' nb') (hr : Q3 af.toList st' L) (hsel : Jt af.toList ds L tm0 (Ct op.operands.toList) = some ti := by rfl)
  (hds : C5 d ds = true := by rfl) (hfa : SN d L = true := by rfl) (he : SG L.length af.toList = true := by rfl) (hla : GW af.toList L = true := by rfl) (hpq : Ri pn L.length = true := by rfl) : VH P cx l ds tm0 s0 pn Q (⟨some d, op, ty, pos, af, none⟩ :: rest) L tm st nb := fun G hl hs ht => by
 refine k (.cons G rfl (fun t v hv => ?_) (fun y hy e he2 => by simp only [Option.some.injEq] at he2; subst he2; exact F9 hfa y hy) (fun e he2 => by simp only [Option.some.injEq] at he2; subst he2; exact hds) (fun e he2 hb => Fp he e (by simpa using he2) hb) ⟨fun j hj => ?_, fun a z b hL hz => (IR hr a z b hL hz).imp (fun ⟨e, h1, h2⟩ => ⟨e, by simpa using h1, h2⟩) id, ?_⟩) (by rw [hl]; simp) rfl ?_
 ·rcases DV hsel t v hv with ⟨a, y, b, h1, h2, e, h3, h4, h5⟩ | h
  ·exact .inl ⟨a, y, b, h1, h2, e, by simpa using h3, h4, h5⟩
  ·exact .inr h
 ·unfold GW at hla
  rw [hj] at hla
  obtain ⟨e, h1, h2, h3⟩ := C1 hla
  exact ⟨e, by simpa using h1, h2, h3⟩
 ·rw [hs, hpq]; exact h
 ·simp only [R0, MP, List.cons_append, List.nil_append, ht]
theorem Db {d : Tmp} {v : V} {tmX : List (Nat × V)} : OU [(d, v)] tmX (st, nb) .normal ⟨(d, v) :: tmX, st, nb⟩ := ⟨rfl, rfl⟩
theorem OW {tmX : List (Nat × V)} : OU [] tmX (st, nb) .normal ⟨tmX, st, nb⟩ := ⟨rfl, rfl⟩
end

theorem MY {ti tmX : List (Nat × V)} {st st' : List E} {nb nb' : Nat} {x : Operand} {v : V} (h : Af ⟨ti, st, nb⟩ x = some v) : Af ⟨ti ++ tmX, st', nb'⟩ x = some v := by
 cases x with
 | tmp t =>
  simp only [Af] at h ⊢
  split at h
  ·rename_i u hu
   rw [Cf, hu]; exact h
  ·cases h
 | _ => exact h
theorem Vn {v : V} {l : List V} (h : BT v = true) (k : Ca l = true) : Ca (v :: l) = true := by simp only [Ca, h, k]
section
variable {P : Program} {cx : Cx} {l rest : List Oper} {ds : List Nat} {tm0 tm : List (Nat × V)} {s0 : List E × Nat} {pn : Option Nat} {Q : VE → St → Prop} {L : List It} {st : List E} {nb : Nat}
theorem CQ {t ty : TypeId} {x y : Operand} {pos : String} {af : Array Edge} {ti : List (Nat × V)} {kk off sz : Nat} {ag : Bool} {z : List Value} {v : V} {vs old : List V} [hT : BE P t ag (sz + 1) z]
  (k : VH P cx l ds tm0 s0 pn Q rest (⟨⟨none, .store t x y, ty, pos, af, none⟩, .d .any, ti, some (.c kk off vs :: st, nb), []⟩ :: L) tm (.c kk off vs :: st) nb)
  (hsel : Jt af.toList ds L tm0 (Ct (Op.store t x y).operands.toList) = some ti := by rfl) (hx : Af ⟨ti, [], 0⟩ x = some (.ptr kk off) := by rfl) (hy : Af ⟨ti, [], 0⟩ y = some v := by rfl) (hv : Bt v = some vs := by rfl) (hl : vs.length = sz + 1 := by rfl) (h1 : Ca vs = true := by first | rfl | (repeat (first | exact rfl | refine Vn (by first | rfl | assumption) ?_)))
  (hold : AM kk off st (sz + 1) = some old := by rfl) (hr : Q3 af.toList (.c kk off vs :: st) L := by repeat' (first | exact trivial | exact rfl | refine ⟨?_, ?_⟩))
  (he : SG L.length af.toList = true := by rfl) (hla : GW af.toList L = true := by rfl) (hpq : Ri pn L.length = false := by rfl) : VH P cx l ds tm0 s0 pn Q (⟨none, .store t x y, ty, pos, af, none⟩ :: rest) L tm st nb :=
 Abo (fun tmX => Gt (PA (OW (tmX := ti ++ tmX))) (Bi (MY hx) (MY hy) hv hl h1 hold) (hw := trivial) (hn := rfl)) k hr hsel he hla hpq
theorem Nd (v : V) {d : Tmp} {op : Op} {ty : TypeId} {pos : String} {af : Array Edge} {ti : List (Nat × V)} (h : ∀ tmX, VL P cx l [⟨some d, op, ty, pos, af, none⟩] ⟨ti ++ tmX, st, nb⟩ (Z1 Q))
  (k : VH P cx l ds tm0 s0 pn Q rest (⟨⟨some d, op, ty, pos, af, none⟩, v, ti, some (st, nb), []⟩ :: L) ((d, v) :: tm) st nb) (hr : Q3 af.toList st L := by repeat' (first | exact trivial | exact rfl | refine ⟨?_, ?_⟩)) (hsel : Jt af.toList ds L tm0 (Ct op.operands.toList) = some ti := by rfl)
  (hds : C5 d ds = true := by rfl) (hfa : SN d L = true := by rfl) (he : SG L.length af.toList = true := by rfl) (hla : GW af.toList L = true := by rfl) (hpq : Ri pn L.length = true := by rfl) : VH P cx l ds tm0 s0 pn Q (⟨some d, op, ty, pos, af, none⟩ :: rest) L tm st nb := Abq h k hr hsel hds hfa he hla hpq
end

set_option maxRecDepth 10000
set_option maxHeartbeats 4000000
theorem H0 (a b : Fr) : VP Tryz.prog 12 [.agg (Cc a), .agg (Cc b)] (· = .ret (.lit (.bool (decide (a = b))))) := by
 have c1 := RI a.bs b.bs
 have c2 := X4 a.os b.os
 simp only [Cc, Dn]
 refine Al fun B => ?_
 repeat' (first | refine Ai ?_ | (refine As ?_; first | refine cz (c1) ?_ | refine cz (c2) ?_ | refine Zd ?_) | refine Ah ?_ | refine nc ?_ ?_ | (with_reducible intro _ <;> (try (exfalso; omega))) | refine Aa ?_ | (refine nd ?_ ?_ <;> intro hg <;> first | exact xo hg | rw [hg]))
 all_goals (clear c1 c2; have hq := YP a b; (try simp only [Tq] at *); (try norm_cast at *); simp_all)
theorem Z0 (a b : List UInt8) (ha : a.length ≤ 1000000) (hb : b.length ≤ 256) : VP Tryz.prog 133 [BD a, BD b] (· = .ret (.tup [.sl true true (AG (a ++ (AF 2 b.length ++ b))), An 0])) := by
 have c1 := Qi 2 b.length (by omega) (by omega)
 have c2 := LU a (AF 2 b.length) (by rw [AI]; omega)
 have c3 := LU (a ++ AF 2 b.length) b (by rw [List.length_append, AI]; omega)
 rw [List.append_assoc] at c3
 have hbl := Av b
 simp only [Int.cast_ofNat_Int] at c1
 rw [← hbl] at c1 c2 c3 ⊢
 refine Al fun B => ?_
 repeat' (first | refine Ai ?_ | (refine As ?_; first | refine cz (c1) ?_ | refine cz (c2) ?_ | refine cz (c3) ?_) | refine Ah ?_ | refine nc ?_ ?_ | (with_reducible intro _ <;> (try (exfalso; omega))) | refine Aa ?_ | (refine nd ?_ ?_ <;> intro hg <;> first | exact xo hg | rw [hg]))
 all_goals rfl
theorem Acc (b : List UInt8) (w : Nat) (hw : 1 ≤ w ∧ w ≤ 8) (hl : b.length = w) : VP Tryz.prog 153 [BD b, An 0, An w] (· = .ret (.tup [AK (AV b), An 0])) := by
 have hbl := Av b
 have c1 := Rt w (by omega)
 have c2 := U5 b (by omega)
 have hcut : CP (some 0) (some (0 + (w : Int))) (AG b) = AG b := by
  rw [show (0 : Int) + (w : Int) = (w : Int) by omega, DK]; simp only [Option.getD_some, Int.toNat_zero, List.drop_zero, Int.toNat_natCast]; exact List.take_of_length_le (by omega)
 refine Al fun B => ?_
 repeat' (first | rw [hcut] | refine Ai ?_ | (refine As ?_; first | refine cz (c1) ?_ | refine cz (c2) ?_ | (refine AJ (Bf 110) ?_; first | refine Ag (Bf 110) ?_ | refine Ao (Ds 110) ?_ | (refine Aj (BA _ 110) ?_ ?_ <;> intro _ <;> (try (exfalso; omega))) | (refine Ap (BA _ 110) ?_ ?_ <;> intro _)) | (refine AJ (Bf 111) ?_; first | refine Ag (Bf 111) ?_ | refine Ao (Ds 111) ?_ | (refine Aj (BA _ 111) ?_ ?_ <;> intro _ <;> (try (exfalso; omega))) | (refine Ap (BA _ 111) ?_ ?_ <;> intro _)) | (refine AJ (Bf 2) ?_; first | refine Ag (Bf 2) ?_ | refine Ao (Ds 2) ?_ | (refine Aj (BA _ 2) ?_ ?_ <;> intro _ <;> (try (exfalso; omega))) | (refine Ap (BA _ 2) ?_ ?_ <;> intro _)) | refine Ae 199 fun _ => ?_ | refine BI (hc := AN (fd := 229) Tryz.func198 rfl Tryz.ntmps198 Tryz.results198 fun _ => ?_)) | refine Ah ?_ | refine nc ?_ ?_ | (with_reducible intro _ <;> (try (exfalso; omega))) | refine Aa ?_ | (refine nd ?_ ?_ <;> intro hg <;> first | exact xo hg | rw [hg]) | refine AU Tryz.func229 rfl Tryz.ntmps229 Tryz.results229 ?_)
 all_goals rfl
theorem Hw (f : Fr) (hk : 1 ≤ f.k ∧ f.k ≤ 5) : VP Tryz.prog 39 [.agg (Cc f)] (· = .ret (.agg (Cc (E6 f)))) := by
 refine VP.le ?_
 obtain ⟨k, ep, si, sn, ix, my, bs, os, v, fl, fq, pr, tl, w⟩ := f
 rcases Qj hk.1 hk.2 with h | h | h | h | h <;> simp only at h <;> subst h
 all_goals
  first
   | rw [show E6 ⟨1, ep, si, sn, ix, my, bs, os, v, fl, fq, pr, tl, w⟩ = ⟨1, ep, si, sn, ix, 0, [], [], .zero, 0, 0, 0, 0, .zero⟩ from rfl]
   | rw [show E6 ⟨2, ep, si, sn, ix, my, bs, os, v, fl, fq, pr, tl, w⟩ = ⟨2, ep, si, sn, ix, my, bs, [], .zero, 0, 0, 0, 0, .zero⟩ from rfl]
   | rw [show E6 ⟨3, ep, si, sn, ix, my, bs, os, v, fl, fq, pr, tl, w⟩ = ⟨3, ep, si, 0, 0, 0, [], os, .zero, 0, 0, 0, 0, .zero⟩ from rfl]
   | rw [show E6 ⟨4, ep, si, sn, ix, my, bs, os, v, fl, fq, pr, tl, w⟩ = ⟨4, ep, si, 0, 0, 0, [], [], v, fl, fq, 0, 0, .zero⟩ from rfl]
   | rw [show E6 ⟨5, ep, si, sn, ix, my, bs, os, v, fl, fq, pr, tl, w⟩ = ⟨5, ep, 0, 0, 0, 0, [], [], v, 0, 0, pr, tl, w⟩ from rfl]
  simp only [Cc, Dn, Do, Vc.zero]
  refine Al fun B => ?_
  repeat' (first | (refine D5 (by kernel_rfl) ?_; repeat' (first | refine Bc ?_ | refine DO ?_ | refine CJ ?_ | refine BJ ?_ | refine CQ ?_)) | refine Ai ?_ | refine Ah ?_ | refine nc ?_ ?_ | (with_reducible intro _ <;> (try (exfalso; omega))) | refine Aa ?_ | (refine nd ?_ ?_ <;> intro hg <;> first | exact xo hg | rw [hg]))
 all_goals (simp only [Cm, AG, List.map_nil, Int.ofNat_zero]; infer_instance)

set_option maxRecDepth 20000
set_option maxRecDepth 10000
abbrev O6 (k : Int) : List D := [.lit (By (BX k)), .sl false true (Fa (Bb k))]
theorem X0 : VP Tryz.prog 95 [] (· = .ret (.agg [.lit (By []), .sl false true [], .lit (By (BX 1)), .sl false true (Fa (Bb 1)), .lit (By (BX 2)), .sl false true (Fa (Bb 2)), .lit (By (BX 3)), .sl false true (Fa (Bb 3)),
  .lit (By (BX 4)), .sl false true (Fa (Bb 4)), .lit (By (BX 5)), .sl false true (Fa (Bb 5))])) := by
 refine VP.le ?_
 refine Al fun B => ?_
 repeat' (first | refine Ai ?_ | refine Ah ?_ | refine nc ?_ ?_ | (with_reducible intro _ <;> (try (exfalso; omega))) | refine Aa ?_ | (refine nd ?_ ?_ <;> intro hg <;> first | exact xo hg | rw [hg]))
 all_goals (simp only [Cm, Bb, BX, Fa, Je, Fl.nm, List.map_cons, List.map_nil, AQ, Int.reduceEq, if_true, if_false]; infer_instance)
theorem OV (k : Int) : VP Tryz.prog 54 [An k] (· = .ret (.agg (O6 k))) := by
 have c := X0
 refine VP.le ?_
 rcases Kx k with rfl | rfl | rfl | rfl | rfl | ⟨h1, h2, h3, h4, h5⟩
 all_goals
  refine Al fun B => ?_
  repeat' (first | refine Ai ?_ | (refine As ?_; first | refine cz (c) ?_ | refine Mt ?_) | refine Ah ?_ | refine nc ?_ ?_ | (with_reducible intro _ <;> (try (exfalso; omega))) | refine Aa ?_ | (refine nd ?_ ?_ <;> intro hg <;> first | exact xo hg | rw [hg]))
 all_goals first | exact A7 _ | skip
 all_goals
  have e1 : BX k = [] := by
   simp only [BX]
   rw [if_neg h1, if_neg h2, if_neg h3, if_neg h4, if_neg h5]
  have e2 : Bb k = [] := by
   simp only [Bb]
   rw [if_neg h1, if_neg h2, if_neg h3, if_neg h4, if_neg h5]
  simp only [O6, e1, e2, Cm, List.map_nil]
  infer_instance
theorem In (k : Int) : VP Tryz.prog 17 [An k] (· = .ret (.lit (By (BX k)))) := by
 have c := OV k
 refine Al fun B => ?_
 repeat' (first | refine Ai ?_ | (refine As ?_; first | refine cz (c) ?_) | refine Ah ?_ | refine nc ?_ ?_ | (with_reducible intro _ <;> (try (exfalso; omega))) | refine Aa ?_ | (refine nd ?_ ?_ <;> intro hg <;> first | exact xo hg | rw [hg]))
 all_goals rfl
def N8 : Fl → FuncId
 | .ep => 126
 | .si => 128
 | .sn => 129
 | .ix => 130
 | .my => 131
 | .v => 142
 | .fl => 143
 | .fq => 144
 | .pr => 145
 | .tl => 146
 | .w => 147
 | _ => 0
abbrev FU (n : Fl) : List D := [.pt [.fn (N8 n) [] []]]
def Ii : Fl → D
 | .si => .fn 174 [] (FU .si)
 | .ix => .fn 174 [] (FU .ix)
 | .my => .fn 174 [] (FU .my)
 | .v => .fn 188 [] (FU .v)
 | .w => .fn 188 [] (FU .w)
 | .bs => .lit (.func (.func 132) #[] #[])
 | .os => .lit (.func (.func 135) #[] #[])
 | n => .fn 171 [] (FU n)
def Ih : Fl → D
 | .si => .fn 175 [] (FU .si)
 | .ix => .fn 175 [] (FU .ix)
 | .my => .fn 175 [] (FU .my)
 | .v => .fn 190 [] (FU .v)
 | .w => .fn 190 [] (FU .w)
 | .bs => .lit (.func (.func 134) #[] #[])
 | .os => .lit (.func (.func 138) #[] #[])
 | n => .fn 173 [] (FU n)
abbrev Fv (n : Fl) : List D := [Je n, Ii n, Ih n]
def Co : List Fl := [.ep, .si, .sn, .ix, .my, .bs, .os, .v, .fl, .fq, .pr, .tl, .w]
theorem Jr (n : List UInt8) (a : FuncId) : VP Tryz.prog 125 [.lit (By n), .fn a [] []] (· = .ret (.agg [.lit (By n), .fn 171 [] [.pt [.fn a [] []]], .fn 173 [] [.pt [.fn a [] []]]])) := by
 refine Al fun B => ?_
 repeat' (first | refine Ai ?_ | refine Ah ?_ | refine nc ?_ ?_ | (with_reducible intro _ <;> (try (exfalso; omega))) | refine Aa ?_ | (refine nd ?_ ?_ <;> intro hg <;> first | exact xo hg | rw [hg]))
 all_goals rfl
theorem Nl (n : List UInt8) (a : FuncId) : VP Tryz.prog 127 [.lit (By n), .fn a [] []] (· = .ret (.agg [.lit (By n), .fn 174 [] [.pt [.fn a [] []]], .fn 175 [] [.pt [.fn a [] []]]])) := by
 refine Al fun B => ?_
 repeat' (first | refine Ai ?_ | refine Ah ?_ | refine nc ?_ ?_ | (with_reducible intro _ <;> (try (exfalso; omega))) | refine Aa ?_ | (refine nd ?_ ?_ <;> intro hg <;> first | exact xo hg | rw [hg]))
 all_goals rfl
theorem Tl (n : List UInt8) (a : FuncId) : VP Tryz.prog 141 [.lit (By n), .fn a [] []] (· = .ret (.agg [.lit (By n), .fn 188 [] [.pt [.fn a [] []]], .fn 190 [] [.pt [.fn a [] []]]])) := by
 refine Al fun B => ?_
 repeat' (first | refine Ai ?_ | refine Ah ?_ | refine nc ?_ ?_ | (with_reducible intro _ <;> (try (exfalso; omega))) | refine Aa ?_ | (refine nd ?_ ?_ <;> intro hg <;> first | exact xo hg | rw [hg]))
 all_goals rfl
theorem JI : VP Tryz.prog 86 [] (· = .ret (.sl false true (Co.map Fv))) := by
 refine VP.le ?_
 refine Al fun B => ?_
 have c1 := Jr (Fl.nm .ep) 126
 have c2 := Nl (Fl.nm .si) 128
 have c3 := Jr (Fl.nm .sn) 129
 have c4 := Nl (Fl.nm .ix) 130
 have c5 := Nl (Fl.nm .my) 131
 have c9 := Tl (Fl.nm .v) 142
 have c10 := Jr (Fl.nm .fl) 143
 have c11 := Jr (Fl.nm .fq) 144
 have c12 := Jr (Fl.nm .pr) 145
 have c13 := Jr (Fl.nm .tl) 146
 have c14 := Tl (Fl.nm .w) 147
 simp only [Fl.nm] at c1 c2 c3 c4 c5 c9 c10 c11 c12 c13 c14
 repeat' (first | refine C7 ?_ | refine Ai ?_ | (refine As ?_; first | refine cz (c1) ?_ | refine cz (c2) ?_ | refine cz (c3) ?_ | refine cz (c4) ?_ | refine cz (c5) ?_ | refine cz (c9) ?_ | refine cz (c10) ?_ | refine cz (c11) ?_ | refine cz (c12) ?_ | refine cz (c13) ?_ | refine cz (c14) ?_) | refine Ah ?_ | refine nc ?_ ?_ | (with_reducible intro _ <;> (try (exfalso; omega))) | refine Aa ?_ | (refine nd ?_ ?_ <;> intro hg <;> first | exact xo hg | rw [hg]))
 all_goals exact A7 _

end Go.Proofs.YtbgcjnfhadhjeaaGreat