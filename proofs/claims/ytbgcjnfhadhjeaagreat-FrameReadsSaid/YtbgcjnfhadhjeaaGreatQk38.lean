/- Walks by data and names, part 38: A region that draws its order, walked order by order. A region that draws its order: what hangs on no memory may come at any time, and what turns memory comes one behind the other. -/
import Derived.Test.YtbgcjnfhadhjeaaGreatQk20
namespace Go.Proofs.YtbgcjnfhadhjeaaGreat
set_option maxRecDepth 20000
open Go.RowKit
theorem MJ {F : Fence} {n : Nat} {P : Program} {o : Oper} {a : Act} {w : World} {K K' : Act → World → Prop} {Q Q' : Exit → Act → World → Prop} (h : ∀ a w, K a w → K' a w) (hq : ∀ e a w, e ≠ .normal → Q e a w → Q' e a w)
  (hh : o.wpIn F n P a w K Q) : o.wpIn F n P a w K' Q' := by
 have hl : LetsOut Q → LetsOut Q' := fun ⟨a, w, hl⟩ => ⟨a, w, hq _ _ _ (by intro q; cases q) hl⟩
 unfold Oper.wpIn at *
 refine ⟨hh.1, ?_⟩
 have hh := hh.2
 generalize (o.semAt F.round a.eval).run P w = r at *
 cases r with
 | ok x w' =>
  cases x <;> simp only [Oper.uponIn] at hh ⊢ <;>
   first
    | exact h _ _ hh
    | exact ⟨hh.1, CallsIn.mono hh.2 (fun e w'' he => by cases e <;> first | exact h _ _ he | exact hq _ _ _ (by intro q; cases q) he | exact hl he)⟩
    | exact ⟨hh.1, RowsIn.mono hh.2 (fun _ _ he => h _ _ he)⟩
    | exact ⟨hh.1, RoundIn.mono hh.2 (fun e w'' he => by cases e <;> first | exact h _ _ he | exact hq _ _ _ (by intro q; cases q) he | exact hl he)⟩
 | halt x w' => cases x <;> simp only [Oper.uponIn] at hh ⊢ <;> first | exact hh | exact hq _ _ _ (by intro q; cases q) hh
def VA (P : Program) (cx : Cx) (l : List Oper) (k : Nat) (listed : Array Bool) (s : St) (Q : VE → St → Prop) : Prop :=
 ∀ n g0 w0 g a w, Ei cx.sp cx.m g0 w0 g w → Dg cx g a w s → wpAnyIn (FW cx.rd) n P .any l.toArray (EY cx g0 w0 Q) k listed a w
def Yl (P : Program) (cx : Cx) (l : List Oper) (k : Nat) (listed : Array Bool) (Q : VE → St → Prop) : VE → St → Prop
 | .normal, s => VA P cx l k listed s Q
 | e, s => Q e s
section
variable {P : Program} {cx : Cx} {s : St} {Q : VE → St → Prop} {l : List Oper}
theorem Za {id : Nat} (hm : P.follows .mixedOrders = true) (h : VA P cx l l.length (Array.replicate l.length false) s Q) : VW P cx (.region id l.toArray true) s Q := fun n g0 w0 g a w hE hS => by
 have hN : Qt cx.B g w g w.drew none := ⟨⟨rfl, rfl, rfl, Nat.le_refl _, fun h => h, fun h => h, fun _ _ h => ⟨h, rfl⟩, fun _ h => h, fun _ _ => rfl, .refl⟩, fun _ _ => rfl, fun _ _ => ⟨rfl, rfl, rfl⟩⟩
 refine wpIn_region_any hm ?_
 have := h n g0 w0 g a w.drew (hE.trans hN.evo) ⟨hS.size, fun ht => hN.evo.vrep (hS.tm ht), hS.st.newO hN hS.inv (fun _ h => by cases h), hS.inv.evo (w' := w.drew) (Nat.le_refl _), hS.defers.evo hN.evo⟩
 simpa using this
theorem Tt {k : Nat} {listed : Array Bool} {s' : St} (h : RS cx s s') (k' : VA P cx l k listed s' Q) : VA P cx l k listed s Q := fun n g0 w0 g a w hE hS =>
 let ⟨g', h1, h2⟩ := h g0 w0 g a w hE hS; k' n g0 w0 g' a w h1 h2
theorem WJ {k : Nat} {listed : Array Bool} {is : List Nat} (hr : Region.ready .any l.toArray listed = is) (hne : is ≠ []) (h : ∀ i ∈ is, ∃ o, l[i]? = some o ∧ VL P cx l [o] s (Yl P cx l k (listed.setIfInBounds i true) Q)) : VA P cx l (k + 1) listed s Q := fun n g0 w0 g a w hE hS => by
 refine ⟨fun e => (hne (hr.symm.trans e)).elim, fun i hi => ?_⟩
 rw [hr] at hi
 obtain ⟨o, ho, hv⟩ := h i hi
 have hv := hv n g0 w0 g a w hE hS
 have key : ∀ a' w', EY cx g0 w0 (Yl P cx l k (listed.setIfInBounds i true) Q) .normal a' w' → wpAnyIn (FW cx.rd) n P .any l.toArray (EY cx g0 w0 Q) k (listed.setIfInBounds i true) a' w' := fun a' w' hp => by
  obtain ⟨g', s', e', h1, h2, h3, h4⟩ := hp
  cases e' <;> simp only [BV] at h3 <;> first | exact h4 n g0 w0 g' a' w' h1 h2 | (simp at h3)
 have keyq : ∀ e a' w', e ≠ .normal → EY cx g0 w0 (Yl P cx l k (listed.setIfInBounds i true) Q) e a' w' → EY cx g0 w0 Q e a' w' := fun e a' w' hne hp => by
  obtain ⟨g', s', e', h1, h2, h3, h4⟩ := hp
  refine ⟨g', s', e', h1, h2, h3, ?_⟩
  cases e' <;> first | exact h4 | (simp only [BV] at h3; exact (hne h3).elim)
 unfold wpOpIn
 rw [List.getElem?_toArray, ho]
 simp only [BH] at hv ⊢
 split
 ·rename_i hw
  rw [if_pos hw] at hv
  exact MJ key keyq hv
 ·rename_i hw
  rw [if_neg hw] at hv
  exact ⟨hv.1, key _ _ hv.2⟩
theorem Wc {k : Nat} {listed : Array Bool} (h : VA P cx l k listed s Q) : Yl P cx l k listed Q .normal s := h
end

structure It where
 o : Oper
 v : V
 ti : List (Nat × V)
 ef : Option (List E × Nat)
 rq : List (Nat × Nat × V)
def Kg (st : List E) : List (Nat × Nat × V) → Prop
 | [] => True
 | (k, o, v) :: r => Aq k o st = some v ∧ Kg st r
def MP (x : It) : List (Nat × V) := match x.o.dst with
 | some d => [(d, x.v)]
 | none => []
def R0 : List It → List (Nat × V)
 | [] => []
 | x :: L => MP x ++ R0 L
def N6 (s0 : List E × Nat) : List It → List E × Nat
 | [] => s0
 | x :: L => match x.ef with
  | some s => s
  | none => N6 s0 L
def Ni (ls : Array Bool) : List It → List (Nat × V)
 | [] => []
 | x :: L => match ls.getD L.length true with
  | true => MP x ++ Ni ls L
  | false => Ni ls L
def Kd (s0 : List E × Nat) (ls : Array Bool) : List It → List E × Nat
 | [] => s0
 | x :: L => match ls.getD L.length true with
  | true => (match x.ef with
   | some s => s
   | none => Kd s0 ls L)
  | false => Kd s0 ls L
def Hs : List It → Option Nat
 | [] => none
 | x :: L => match x.ef with
  | some _ => some L.length
  | none => Hs L
def OU (t tm : List (Nat × V)) (s : List E × Nat) (e : VE) (z : St) : Prop := e = .normal ∧ z = ⟨t ++ tm, s.1, s.2⟩
def Ri : Option Nat → Nat → Bool
 | none, _ => false
 | some p, n => Nat.beq p n
def AaJ (b : Bool) (R S : VE → St → Prop) : VE → St → Prop := match b with
 | true => fun e z => e ≠ .normal ∧ S e z
 | false => R
def L9 (P : Program) (cx : Cx) (l : List Oper) (s0 : List E × Nat) (pn : Option Nat) (QP : VE → St → Prop) (L : List It) (x : It) : Prop := match x.ef with
 | none => Ri pn L.length = false ∧ BS x.o.op = true ∧ (∃ d, x.o.dst = some d ∧ Nat.blt d cx.N = true) ∧ (x.rq = [] ∨ ((∀ j, Hs L = some j → ∃ e ∈ x.o.after, Region.binds .any e = true ∧ e.on = j) ∧ Kg (N6 s0 L).1 x.rq)) ∧ ∀ st nb, Kg st x.rq → Bq P cx x.o.op x.o.type ⟨x.ti, st, nb⟩ x.v
 | some s => (∀ j, Hs L = some j → ∃ e ∈ x.o.after, Region.binds .any e = true ∧ e.on = j) ∧ (∀ a z b, L = a ++ z :: b → z.ef = none → (∃ e ∈ x.o.after, Region.binds .any e = true ∧ e.on = b.length) ∨ Kg s.1 z.rq) ∧ ∀ tmX, VL P cx l [x.o] ⟨x.ti ++ tmX, (N6 s0 L).1, (N6 s0 L).2⟩ (AaJ (Ri pn L.length) (OU (MP x) (x.ti ++ tmX) s) QP)
inductive HG (P : Program) (cx : Cx) (l : List Oper) (ds : List Nat) (tm0 : List (Nat × V)) (s0 : List E × Nat) (pn : Option Nat) (QP : VE → St → Prop) : List It → Prop
 | nil : HG P cx l ds tm0 s0 pn QP []
 | cons {L : List It} {x : It} (h : HG P cx l ds tm0 s0 pn QP L) (hg : x.o.guard = none)
   (hs : ∀ t v, AA t x.ti = some v → (∃ a y b, L = a ++ y :: b ∧ MP y = [(t, v)] ∧ ∃ e ∈ x.o.after, Region.binds .any e = true ∧ e.on = b.length) ∨ (C5 t ds = false ∧ AA t tm0 = some v))
   (hd : ∀ y ∈ L, ∀ d, x.o.dst = some d → y.o.dst ≠ some d) (hds : ∀ d, x.o.dst = some d → C5 d ds = true) (he : ∀ e ∈ x.o.after, Region.binds .any e = true → e.on < L.length) (hk : L9 P cx l s0 pn QP L x) : HG P cx l ds tm0 s0 pn QP (x :: L)
theorem Cf {t : Nat} : ∀ {a b : List (Nat × V)}, AA t (a ++ b) = (match AA t a with | some v => some v | none => AA t b)
 | [], b => by simp [AA]
 | (k, v) :: a, b => by
  simp only [List.cons_append, AA]
  split
  ·rfl
  ·exact Cf
theorem I5 {x : It} {t : Nat} {v : V} (h : AA t (MP x) = some v) : MP x = [(t, v)] ∧ x.o.dst = some t := by
 unfold MP at h ⊢
 split at h
 ·rename_i d hd
  simp only [AA] at h
  split at h
  ·rename_i hb
   have := Nat.eq_of_beq_eq_true hb
   subst this
   cases h
   simp only [hd]
   exact ⟨trivial, trivial⟩
  ·cases h
 ·simp [AA] at h
theorem NN {x : It} {t : Nat} {v : V} (h : MP x = [(t, v)]) : x.o.dst = some t := by
 unfold MP at h
 split at h
 ·rename_i d hd; simp at h; rw [hd, h.1]
 ·simp at h
section
variable {P : Program} {cx : Cx} {l : List Oper} {ds : List Nat} {tm0 : List (Nat × V)} {s0 : List E × Nat} {pn : Option Nat} {QP : VE → St → Prop} {Q : VE → St → Prop} {ls : Array Bool}
theorem HG.at {L : List It} (G : HG P cx l ds tm0 s0 pn QP L) : ∀ {a : List It} {x : It} {b : List It}, L = a ++ x :: b → HG P cx l ds tm0 s0 pn QP (x :: b) := by
 induction G with
 | nil => intro a x b h; simp at h
 | cons h hg hs hd hds he hk ih =>
  rename_i L x
  intro a y b h0
  cases a with
  | nil => simp only [List.nil_append, List.cons.injEq] at h0; obtain ⟨rfl, rfl⟩ := h0; exact .cons h hg hs hd hds he hk
  | cons z a => simp only [List.cons_append, List.cons.injEq] at h0; exact ih h0.2
theorem Nh {L : List It} : ∀ {t : Nat} {v : V}, AA t (Ni ls L) = some v → ∃ a y b, L = a ++ y :: b ∧ ls.getD b.length true = true ∧ MP y = [(t, v)] := by
 induction L with
 | nil => intro t v h; simp [Ni, AA] at h
 | cons x L ih =>
  intro t v h
  simp only [Ni] at h
  split at h
  ·rename_i hl
   rw [Cf] at h
   split at h
   ·rename_i v' hv; cases h
    exact ⟨[], x, L, rfl, hl, (I5 hv).1⟩
   ·obtain ⟨a, y, b, rfl, h1, h2⟩ := ih h; exact ⟨x :: a, y, b, rfl, h1, h2⟩
  ·obtain ⟨a, y, b, rfl, h1, h2⟩ := ih h; exact ⟨x :: a, y, b, rfl, h1, h2⟩
theorem Hf {L : List It} (G : HG P cx l ds tm0 s0 pn QP L) : ∀ {a : List It} {y : It} {b : List It} {t : Nat} {v : V}, L = a ++ y :: b → ls.getD b.length true = true → MP y = [(t, v)] → AA t (Ni ls L) = some v := by
 induction G with
 | nil => intro a y b t v h; simp at h
 | cons h hg hs hd hds he hk ih =>
  rename_i L x
  intro a y b t v h0 h1 h2
  cases a with
  | nil =>
   simp only [List.nil_append, List.cons.injEq] at h0; obtain ⟨rfl, rfl⟩ := h0
   simp only [Ni, h1, h2, List.cons_append, List.nil_append, AA, Nat.beq_refl]
  | cons z a =>
   simp only [List.cons_append, List.cons.injEq] at h0
   obtain ⟨rfl, rfl⟩ := h0
   have h3 := ih rfl h1 h2
   simp only [Ni]
   split
   ·rw [Cf]
    split
    ·rename_i v' hv
     have := (I5 hv).2
     exact absurd (NN h2) (hd y (by simp) t this)
    ·exact h3
   ·exact h3
theorem KS {tm tm' : List (Nat × V)} {st : List E} {nb : Nat} (h : ∀ t v, AA t tm' = some v → AA t tm = some v) : RS cx ⟨tm, st, nb⟩ ⟨tm', st, nb⟩ := fun _ _ g _ _ hE hS => ⟨g, hE, ⟨hS.size, fun ht => hS.tm (h _ _ ht), hS.st, hS.inv, hS.defers⟩⟩
theorem Bq.more {op : Op} {ty : TypeId} {ti tm : List (Nat × V)} {st : List E} {nb : Nat} {v : V} (h : Bq P cx op ty ⟨ti, st, nb⟩ v) (hl : ∀ t v, AA t ti = some v → AA t tm = some v) : Bq P cx op ty ⟨tm, st, nb⟩ v := fun g a w hS =>
 h g a w ⟨hS.size, fun ht => hS.tm (hl _ _ ht), hS.st, hS.inv, hS.defers⟩
def Cl (l : List Oper) (ls : Array Bool) : Prop := ∀ (i : Nat) o, l[i]? = some o → ls.getD i true = true → ∀ e ∈ o.after, Region.binds .any e = true → ls.getD e.on true = true
theorem JQ {L : List It} {a : List It} {x : It} {b : List It} (hl : L.reverse.map (·.o) = l) (h : L = a ++ x :: b) : l[b.length]? = some x.o := by
 subst h; subst hl
 simp []
theorem Qp {c a : List It} {y z : It} {b b' : List It} (e : c ++ y :: b = a ++ z :: b') (h : b.length < b'.length) : ∃ c', b' = c' ++ y :: b := by
 rcases List.append_eq_append_iff.1 e with ⟨qs, h1, h2⟩ | ⟨bs, h1, h2⟩
 ·have := congrArg List.length h2
  simp only [List.length_append, List.length_cons] at this
  omega
 ·cases bs with
  | nil => simp only [List.nil_append, List.cons.injEq] at h2; rw [h2.2] at h; omega
  | cons x bs => simp only [List.cons_append, List.cons.injEq] at h2; exact ⟨bs, h2.2⟩
theorem VL.mono {P : Program} {cx : Cx} {ops rest : List Oper} {s : St} {Q Q' : VE → St → Prop} (h : VL P cx ops rest s Q) (hq : ∀ e s, Q e s → Q' e s) : VL P cx ops rest s Q' := fun n g0 w0 g a w hE hS => by
 have hp : ∀ e a w, EY cx g0 w0 Q e a w → EY cx g0 w0 Q' e a w := fun e a w ⟨g', s', e', k1, k2, k3, k4⟩ => ⟨g', s', e', k1, k2, k3, hq _ _ k4⟩
 have : ∀ (rest : List Oper) (a : Act) (w : World), BH (FW cx.rd) n P ops.toArray (EY cx g0 w0 Q) rest a w → BH (FW cx.rd) n P ops.toArray (EY cx g0 w0 Q') rest a w := by
  intro rest
  induction rest with
  | nil => intro a w h; exact hp _ _ _ h
  | cons o rest ih =>
   intro a w h
   simp only [BH] at h ⊢
   split
   ·rename_i hw; rw [if_pos hw] at h; exact MJ ih (fun e a w _ => hp e a w) h
   ·rename_i hw; rw [if_neg hw] at h; exact ⟨h.1, ih _ _ h.2⟩
 exact this rest a w (h n g0 w0 g a w hE hS)
theorem O4 : ∀ {L : List It} {j : Nat}, Hs L = some j → ∃ a y b, L = a ++ y :: b ∧ b.length = j ∧ y.ef ≠ none ∧ ∀ z ∈ a, z.ef = none
 | [], _, h => by simp [Hs] at h
 | x :: L, j, h => by
  simp only [Hs] at h
  split at h
  ·rename_i s hs; cases h; exact ⟨[], x, L, rfl, rfl, by rw [hs]; simp, by simp⟩
  ·rename_i hs
   obtain ⟨a, y, b, rfl, h1, h2, h3⟩ := O4 h
   exact ⟨x :: a, y, b, rfl, h1, h2, fun z hz => by
    rcases List.mem_cons.1 hz with rfl | hz
    ·exact hs
    ·exact h3 z hz⟩
theorem Lu : ∀ {L : List It}, Hs L = none → ∀ z ∈ L, z.ef = none
 | [], _, _, hz => by simp at hz
 | x :: L, h, z, hz => by
  simp only [Hs] at h
  split at h
  ·cases h
  ·rename_i hs
   rcases List.mem_cons.1 hz with rfl | hz
   ·exact hs
   ·exact Lu h z hz
theorem IG (hc : Cl l ls) {L : List It} (hl : L.reverse.map (·.o) = l) (G : HG P cx l ds tm0 s0 pn QP L) : ∀ (n : Nat) {a : List It} {M : List It}, M.length = n → L = a ++ M → (∀ j, Hs M = some j → ls.getD j true = true) → ∀ {c y b}, M = c ++ y :: b → y.ef ≠ none → ls.getD b.length true = true := by
 intro n
 induction n using Nat.strongRecOn with
 | _ n ih =>
  intro a M hn hL hj c y b hM hy
  cases hlast : Hs M with
  | none => exact absurd (Lu hlast y (by rw [hM]; simp)) hy
  | some j =>
   obtain ⟨a', z, b', h1, h2, h3, h4⟩ := O4 hlast
   have hz := hj j hlast
   rcases Nat.lt_trichotomy b.length b'.length with hlt | heq | hgt
   ·have hLz : L = (a ++ a') ++ z :: b' := by rw [hL, h1]; simp
    have Gz := G.at hLz
    cases Gz with
    | cons _ _ _ _ _ _ hk =>
     unfold L9 at hk
     split at hk
     ·rename_i hn0; exact absurd hn0 h3
     ·have hbm : ∃ c', b' = c' ++ y :: b := Qp (by rw [← hM, h1]) hlt
      obtain ⟨c', hc'⟩ := hbm
      refine ih b'.length (by rw [← hn, h1]; simp; omega) (a := a ++ a' ++ [z]) rfl (by rw [hLz]; simp) (fun j' hj' => ?_) hc' hy
      obtain ⟨e, he1, he2, he3⟩ := hk.1 j' hj'
      rw [← he3]
      exact hc b'.length z.o (JQ hl hLz) (by rw [h2]; exact hz) e he1 he2
   ·rw [heq, h2]; exact hz
   ·exfalso
    have e : c ++ y :: b = a' ++ z :: b' := by rw [← hM, h1]
    have hlen := congrArg List.length e
    simp only [List.length_append, List.length_cons] at hlen
    have : y ∈ a' := by
     have h5 : (c ++ y :: b)[c.length]? = some y := by simp
     rw [e, List.getElem?_append_left (by omega)] at h5
     exact List.mem_of_getElem? h5
    exact hy (h4 y this)
theorem Nk : ∀ {M : List It}, (∀ {c y b}, M = c ++ y :: b → y.ef ≠ none → ls.getD b.length true = true) → Kd s0 ls M = N6 s0 M
 | [], _ => rfl
 | x :: M, h => by
  have ih := Nk (M := M) fun {c y b} hM hy => h (c := x :: c) (by rw [hM]; rfl) hy
  simp only [Kd, N6]
  cases he : x.ef with
  | none => rw [ih]; split <;> rfl
  | some s => rw [h (c := []) rfl (by rw [he]; simp)]
theorem Hg {b : List It} : ∀ {a : List It}, (∀ {c y d}, a = c ++ y :: d → y.ef ≠ none → ls.getD (d.length + b.length) true = false) → Kd s0 ls (a ++ b) = Kd s0 ls b
 | [], _ => rfl
 | x :: a, h => by
  have ih := Hg (b := b) (a := a) fun {c y d} hM hy => h (c := x :: c) (by rw [hM]; rfl) hy
  simp only [List.cons_append, Kd, List.length_append]
  cases he : x.ef with
  | none => rw [ih]; split <;> rfl
  | some s => rw [h (c := []) rfl (by rw [he]; simp)]; exact ih
theorem Dx {i j : Nat} (h : i < ls.size) : (ls.setIfInBounds i true).getD j true = (if i = j then true else ls.getD j true) := by
 simp only [Array.getD_eq_getD_getElem?, Array.getElem?_setIfInBounds]
 split <;> simp_all
theorem SJ {L : List It} (G : HG P cx l ds tm0 s0 pn QP L) (hl : L.reverse.map (·.o) = l) (hp : ∀ p, pn = some p → p < l.length) (hQP : ∀ e z, e ≠ .normal → QP e z → Q e z) (hQ : pn = none → Q .normal ⟨R0 L ++ tm0, (N6 s0 L).1, (N6 s0 L).2⟩) :
  ∀ (k : Nat) (ls : Array Bool), ls.size = l.length → Cl l ls → un ls l.length = k → (∀ p, pn = some p → ls.getD p true = false) → VA P cx l k ls ⟨Ni ls L ++ tm0, (Kd s0 ls L).1, (Kd s0 ls L).2⟩ Q := by
 have hln : L.length = l.length := by rw [← hl]; simp
 intro k
 induction k with
 | zero =>
  intro ls hsz hc hu hpf n g0 w0 g a w hE hS
  have hall := Km hu
  have hpn : pn = none := by
   cases hpc : pn with
   | none => rfl
   | some p =>
    have h1 := hpf p hpc
    rw [hall p (hp p hpc)] at h1; cases h1
  have h1 : ∀ M : List It, M.length ≤ l.length → Ni ls M = R0 M ∧ Kd s0 ls M = N6 s0 M := by
   intro M
   induction M with
   | nil => intro _; exact ⟨rfl, rfl⟩
   | cons x M ih =>
    intro hM
    simp only [List.length_cons] at hM
    obtain ⟨i1, i2⟩ := ih (by omega)
    simp only [Ni, Kd, R0, N6, hall M.length (by omega), i1, i2]
    exact ⟨trivial, trivial⟩
  obtain ⟨e1, e2⟩ := h1 L (by omega)
  rw [e1, e2] at hS
  refine ⟨?_, g, _, .normal, hE, hS, rfl, hQ hpn⟩
  cases hr : Region.ready .any l.toArray ls with
  | nil => rfl
  | cons i is =>
   have hi : i ∈ Region.ready .any l.toArray ls := by rw [hr]; simp
   obtain ⟨hun, o, ho, _⟩ := mem_ready.1 hi
   have : i < l.length := by simpa using (Array.getElem?_eq_some_iff.1 ho).1
   rw [hall i this] at hun; cases hun
 | succ k ih =>
  intro ls hsz hc hu hpf
  have hedge : ∀ (i : Nat) o, l[i]? = some o → ∀ e ∈ o.after, Region.binds .any e = true → e.on < i := by
   intro i o ho e he hb
   have hi : i < L.length := by rw [hln]; exact (List.getElem?_eq_some_iff.1 ho).1
   obtain ⟨a, x, b, hL, hbl⟩ : ∃ a x b, L = a ++ x :: b ∧ b.length = i := by
    refine ⟨L.take (L.length - 1 - i), L[L.length - 1 - i]'(by omega), L.drop (L.length - 1 - i + 1), ?_, by simp; omega⟩
    rw [← List.drop_eq_getElem_cons (by omega), List.take_append_drop]
   have h2 := JQ hl hL
   rw [hbl, ho] at h2; cases h2
   cases G.at hL with
   | cons _ _ _ _ _ he' _ => rw [← hbl]; exact he' e he hb
  have hne : Region.ready .any l.toArray ls ≠ [] := by
   have : ∀ d i, d = i → i < l.length → ls.getD i true = false → ∃ j, j ∈ Region.ready .any l.toArray ls := by
    intro d
    induction d using Nat.strongRecOn with
    | _ d ihd =>
     intro i hdi hi hun
     have ho : l[i]? = some (l[i]'hi) := List.getElem?_eq_getElem hi
     by_cases hall : ∀ e ∈ (l[i]'hi).after, Region.binds .any e = true → ls.getD e.on false = true
     ·exact ⟨i, mem_ready.2 ⟨hun, _, by simp only [List.getElem?_toArray]; exact ho, hall⟩⟩
     ·simp only [Classical.not_forall] at hall
      obtain ⟨e, he, hb, hu⟩ := hall
      have hlt' := hedge i _ ho e he hb
      exact ihd e.on (by omega) e.on rfl (by omega) (by
       have h2 : e.on < ls.size := by omega
       rw [← Di h2]; simpa using hu)
   obtain ⟨i0, hi0, hun⟩ := Nf (l := ls) (k := l.length) (by omega)
   obtain ⟨j, hj⟩ := this i0 i0 rfl hi0 hun
   intro e; rw [e] at hj; cases hj
  refine WJ rfl hne fun i hi => ?_
  obtain ⟨hun, o, ho, hall⟩ := mem_ready.1 hi
  have ho' : l[i]? = some o := by simpa using ho
  have hil : i < l.length := (List.getElem?_eq_some_iff.1 ho').1
  obtain ⟨a, x, b, hL, hbl⟩ : ∃ a x b, L = a ++ x :: b ∧ b.length = i := by
   refine ⟨L.take (L.length - 1 - i), L[L.length - 1 - i]'(by omega), L.drop (L.length - 1 - i + 1), ?_, by simp; omega⟩
   rw [← List.drop_eq_getElem_cons (by omega), List.take_append_drop]
  have h2 := JQ hl hL
  rw [hbl, ho'] at h2; cases h2
  refine ⟨x.o, ho', ?_⟩
  have hexe : ∀ e ∈ x.o.after, Region.binds .any e = true → ls.getD e.on true = true := fun e he hb => by
   have h3 := hall e he hb
   have h4 : e.on < ls.size := by have := hedge i _ ho' e he hb; omega
   rwa [Di h4] at h3
  have hc' : Cl l (ls.setIfInBounds i true) := by
   intro j oj hj hjt e he hb
   rw [Dx (by omega)]
   split
   ·rfl
   ·rw [Dx (by omega)] at hjt
    split at hjt
    ·rename_i hij; subst hij; rw [ho'] at hj; cases hj; exact hexe e he hb
    ·exact hc j oj hj hjt e he hb
  have hu' : un (ls.setIfInBounds i true) l.length = k := by have := PC hun l.length hil; omega
  have key := fun hne : Ri pn i = false => ih (ls.setIfInBounds i true) (by simp [hsz]) hc' hu' (fun p hpp => by
   rw [Dx (by omega), if_neg (fun e => by subst e; rw [hpp] at hne; simp [Ri] at hne)]; exact hpf p hpp)
  have Gx := G.at hL
  have hti : ∀ t v, AA t x.ti = some v → AA t (Ni ls L ++ tm0) = some v := by
   intro t v ht
   cases Gx with
   | cons _ _ hs _ _ _ _ =>
    rcases hs t v ht with ⟨a', y, b', hb', h5, e, he, hb, hon⟩ | ⟨h5, h6⟩
    ·have : AA t (Ni ls L) = some v := Hf G (a := a ++ x :: a') (y := y) (b := b') (by rw [hL, hb']; simp) (by rw [← hon]; exact hexe e he hb) h5
     rw [Cf, this]
    ·rw [Cf]
     split
     ·rename_i v' hv
      obtain ⟨a', y, b', hL', _, h7⟩ := Nh hv
      cases G.at hL' with
      | cons _ _ _ _ hds _ _ => rw [hds t (NN h7)] at h5; cases h5
     ·exact h6
  have htm : ∀ t v, AA t (Ni (ls.setIfInBounds i true) L ++ tm0) = some v → AA t (MP x ++ (Ni ls L ++ tm0)) = some v := by
   intro t v ht
   rw [Cf] at ht
   rw [Cf]
   split at ht
   ·rename_i v' hv; cases ht
    obtain ⟨a', y, b', hL', h6, h7⟩ := Nh hv
    rw [Dx (by omega)] at h6
    split at h6
    ·rename_i hib
     have h8 := JQ hl hL'
     have : y = x := by
      have h9 := congrArg (fun L => L.reverse[i]?) (hL'.symm.trans hL)
      simp only [List.reverse_append, List.reverse_cons, List.append_assoc, List.cons_append, List.nil_append] at h9
      rw [List.getElem?_append_right (by simp [hib]), List.getElem?_append_right (by simp [hbl])] at h9
      simp [hib, hbl] at h9
      exact h9
     subst this
     rw [h7]; simp [AA]
    ·rename_i hib
     have h8 := Hf G hL' h6 h7
     split
     ·rename_i v' hv'
      exfalso
      have h9 := Hf (ls := ls.setIfInBounds i true) G hL (by rw [Dx (by omega), hbl, if_pos rfl]) (I5 hv').1
      have d1 := NN h7
      have d2 := (I5 hv').2
      rcases Nat.lt_trichotomy b'.length b.length with hlt | heq | hgt
      ·obtain ⟨c, hcb⟩ := Qp (hL'.symm.trans hL) hlt
       cases Gx with
       | cons _ _ _ hd _ _ _ => exact hd y (by rw [hcb]; simp) t d2 d1
      ·omega
      ·obtain ⟨c, hcb⟩ := Qp (hL.symm.trans hL') hgt
       cases G.at hL' with
       | cons _ _ _ hd _ _ _ => exact hd x (by rw [hcb]; simp) t d1 d2
     ·rw [Cf, h8]
   ·rename_i hv
    split
    ·rename_i v' hv'
     have h9 := Hf (ls := ls.setIfInBounds i true) G hL (by rw [Dx (by omega), hbl, if_pos rfl]) (I5 hv').1
     rw [h9] at hv; cases hv
    ·rw [Cf]
     split
     ·rename_i v' hv'
      obtain ⟨a', y, b', hL', h6, h7⟩ := Nh hv'
      have h9 := Hf (ls := ls.setIfInBounds i true) G hL' (by rw [Dx (by omega)]; split <;> simp_all) h7
      rw [h9] at hv; cases hv
     ·exact ht
  cases Gx with
  | cons hG hg hs hd hds he hk =>
   unfold L9 at hk
   split at hk
   ·-- it turns nothing
    rename_i hef
    obtain ⟨hpn, hn, ⟨d, hdd, hdN⟩, hrq, hq⟩ := hk
    rw [hbl] at hpn
    have key := key hpn
    have hreq : Kg (Kd s0 ls L).1 x.rq := by
     rcases hrq with h0 | ⟨hlast, hnow⟩
     ·rw [h0]; trivial
     ·-- the last one that came of those behind it that turn memory
      have hfind : (∀ {c y d}, a = c ++ y :: d → y.ef ≠ none → ls.getD (d.length + (x :: b).length) true = false) ∨
        ∃ c y d, a = c ++ y :: d ∧ y.ef ≠ none ∧ ls.getD (d.length + (x :: b).length) true = true ∧ ∀ {c' y' d'}, c = c' ++ y' :: d' → y'.ef ≠ none → ls.getD (d'.length + (y :: d ++ x :: b).length) true = false := by
       have : ∀ a : List It, (∀ {c y d}, a = c ++ y :: d → y.ef ≠ none → ls.getD (d.length + (x :: b).length) true = false) ∨
         ∃ c y d, a = c ++ y :: d ∧ y.ef ≠ none ∧ ls.getD (d.length + (x :: b).length) true = true ∧ ∀ {c' y' d'}, c = c' ++ y' :: d' → y'.ef ≠ none → ls.getD (d'.length + (y :: d ++ x :: b).length) true = false := by
        intro a
        induction a with
        | nil => exact .inl fun {c y d} h => by simp at h
        | cons z a iha =>
         by_cases hz : z.ef ≠ none ∧ ls.getD (a.length + (x :: b).length) true = true
         ·exact .inr ⟨[], z, a, rfl, hz.1, hz.2, fun {c' y' d'} h => by simp at h⟩
         ·rcases iha with iha | ⟨c, y, d, h1, h2, h3, h4⟩
          ·refine .inl fun {c y d} h hy => ?_
           cases c with
           | nil =>
            simp only [List.nil_append, List.cons.injEq] at h
            obtain ⟨rfl, rfl⟩ := h
            cases hq2 : ls.getD (a.length + (x :: b).length) true with
            | false => rfl
            | true => exact absurd ⟨hy, hq2⟩ hz
           | cons w c => simp only [List.cons_append, List.cons.injEq] at h; exact iha h.2 hy
          ·refine .inr ⟨z :: c, y, d, by rw [h1]; rfl, h2, h3, fun {c' y' d'} h hy => ?_⟩
           cases c' with
           | nil =>
            simp only [List.nil_append, List.cons.injEq] at h
            obtain ⟨rfl, rfl⟩ := h
            have hal : a.length + (x :: b).length = c.length + (y :: d ++ x :: b).length := by rw [h1]; simp; omega
            rw [hal] at hz
            cases hq2 : ls.getD (c.length + (y :: d ++ x :: b).length) true with
            | false => rfl
            | true => exact absurd ⟨hy, hq2⟩ hz
           | cons w c' => simp only [List.cons_append, List.cons.injEq] at h; exact h4 h.2 hy
       exact this a
      rcases hfind with hno | ⟨c, y, d, h1, h2, h3, h4⟩
      ·rw [hL, Hg hno]
       simp only [Kd, hbl, hun]
       rw [Nk (fun {c y d} hM hy => IG hc hl G b.length (a := a ++ [x]) rfl (by rw [hL]; simp) (fun j hj => by
        obtain ⟨e, he1, he2, he3⟩ := hlast j hj
        rw [← he3]; exact hexe e he1 he2) hM hy)]
       exact hnow
      ·have hLy : L = c ++ y :: (d ++ x :: b) := by rw [hL, h1]; simp
       have hls3 : ls.getD (d ++ x :: b).length true = true := by rw [List.length_append]; exact h3
       rw [hLy, show c ++ y :: (d ++ x :: b) = c ++ (y :: d ++ x :: b) by simp, Hg h4]
       cases G.at hLy with
       | cons _ _ _ _ _ _ hk2 =>
        unfold L9 at hk2
        split at hk2
        ·rename_i h0; exact absurd h0 h2
        ·rename_i s hs2
         simp only [List.cons_append, Kd, hls3, hs2]
         rcases hk2.2.1 d x b rfl hef with ⟨e, he1, he2, he3⟩ | h
         ·exfalso
          have := hc _ y.o (JQ hl hLy) hls3 e he1 he2
          rw [he3, hbl, hun] at this; cases this
         ·exact h
    have hst : Kd s0 (ls.setIfInBounds i true) L = Kd s0 ls L := by
     have : ∀ M : List It, (∀ {c y d}, M = c ++ y :: d → d.length = i → y.ef = none) → Kd s0 (ls.setIfInBounds i true) M = Kd s0 ls M := by
      intro M
      induction M with
      | nil => intro _; rfl
      | cons z M ihM =>
       intro hz
       have ihM := ihM fun {c y d} hM hd => hz (c := z :: c) (by rw [hM]; rfl) hd
       simp only [Kd, ihM]
       rw [Dx (by omega)]
       by_cases him : i = M.length
       ·rw [if_pos him]
        have := hz (c := []) rfl him.symm
        simp only [this]
        cases ls.getD M.length true <;> rfl
       ·rw [if_neg him]
     refine this L fun {c y d} hM hdl => ?_
     have : y = x := by
      have h9 := congrArg (fun L => L.reverse[i]?) (hM.symm.trans hL)
      simp only [List.reverse_append, List.reverse_cons, List.append_assoc, List.cons_append, List.nil_append] at h9
      rw [List.getElem?_append_right (by simp [hdl]), List.getElem?_append_right (by simp [hbl])] at h9
      simp [hdl, hbl] at h9
      exact h9
     rw [this]; exact hef
    have hxo : x.o = ⟨some d, x.o.op, x.o.type, x.o.pos, x.o.after, none⟩ := by
     have h1 := hg; have h2 := hdd
     cases hxo : x.o with
     | mk a b c d e f => rw [hxo] at h1 h2; simp only at h1 h2; subst h1 h2; rfl
    rw [hxo]
    refine Wz ((hq _ _ hreq).more hti) trivial hdN hn ?_
    refine PA (Wc (Tt (KS fun t v ht => ?_) (by rw [hst] at key; exact key)))
    have := htm t v ht
    unfold MP at this
    rw [hdd] at this
    exact this
   ·-- it turns memory
    rename_i s hef
    have hb_all : ∀ {c y d}, b = c ++ y :: d → y.ef ≠ none → ls.getD d.length true = true := fun {c y d} hM hy =>
     IG hc hl G b.length (a := a ++ [x]) rfl (by rw [hL]; simp) (fun j hj => by
      obtain ⟨e, he1, he2, he3⟩ := hk.1 j hj
      rw [← he3]; exact hexe e he1 he2) hM hy
    have ha_none : ∀ {c y d}, a = c ++ y :: d → y.ef ≠ none → ls.getD (d.length + (x :: b).length) true = false := fun {c y d} hM hy => by
     cases hq : ls.getD (d.length + (x :: b).length) true with
     | false => rfl
     | true =>
      exfalso
      have hLy : L = c ++ y :: (d ++ x :: b) := by rw [hL, hM]; simp
      have : ls.getD b.length true = true := by
       refine IG hc hl G (d ++ x :: b).length (a := c ++ [y]) rfl (by rw [hLy]; simp) (fun j hj => ?_) (c := d) rfl (by rw [hef]; simp)
       cases G.at hLy with
       | cons _ _ _ _ _ _ hk2 =>
        unfold L9 at hk2
        split at hk2
        ·rename_i h0; exact absurd h0 hy
        ·obtain ⟨e, he1, he2, he3⟩ := hk2.1 j hj
         rw [← he3]
         exact hc _ y.o (JQ hl hLy) (by rw [List.length_append]; exact hq) e he1 he2
      rw [hbl, hun] at this; cases this
    have hst : Kd s0 ls L = N6 s0 b := by
     rw [hL, Hg ha_none]
     simp only [Kd, hbl, hun]
     exact Nk hb_all
    have hst' : Kd s0 (ls.setIfInBounds i true) L = s := by
     rw [hL, Hg (fun {c y d} hM hy => by
      rw [Dx (by omega), if_neg (by simp; omega)]; exact ha_none hM hy)]
     simp only [Kd, hbl]
     rw [Dx (by omega), if_pos rfl, hef]
    rw [hst]
    refine Zi (s' := ⟨x.ti ++ (Ni ls L ++ tm0), (N6 s0 b).1, (N6 s0 b).2⟩) (KS fun t v ht => ?_) ?_
    ·rw [Cf] at ht
     split at ht
     ·rename_i v' hv; cases ht; exact hti _ _ hv
     ·exact ht
    ·have hk2 := hk.2.2 (Ni ls L ++ tm0)
     cases hpb : Ri pn b.length with
     | true =>
      rw [hpb] at hk2
      simp only [AaJ] at hk2
      refine VL.mono hk2 ?_
      rintro e z ⟨h1, h2⟩
      cases e <;> first | exact absurd rfl h1 | exact hQP _ _ h1 h2
     | false =>
     rw [hpb] at hk2
     simp only [AaJ] at hk2
     rw [hbl] at hpb
     have key := key hpb
     refine VL.mono hk2 ?_
     rintro e z ⟨rfl, rfl⟩
     refine Wc (Tt (KS fun t v ht => ?_) (by rw [hst'] at key; exact key))
     have := htm t v ht
     rw [Cf] at this ⊢
     split at this
     ·exact this
     ·rw [Cf]
      split
      ·rename_i v' hv
       rw [hti _ _ hv] at this; cases this; rfl
      ·exact this
end

end Go.Proofs.YtbgcjnfhadhjeaaGreat