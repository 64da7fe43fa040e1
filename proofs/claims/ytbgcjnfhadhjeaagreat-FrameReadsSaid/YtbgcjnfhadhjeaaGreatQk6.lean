/- Walks by data and names, part 6: Functions: what they answer to data, and how that follows from a walk through their code. -/
import Derived.RangeFuncLeaves
import Derived.RangeFuncRecord
import Derived.Test.YtbgcjnfhadhjeaaGreatQk5
namespace Go.Proofs.YtbgcjnfhadhjeaaGreat
set_option maxRecDepth 20000
open Go.RowKit
inductive R where
 | ret (d : D)
 | own (e : TypeId) (sz : Nat) (l : List (List D))
 | panic (d : D)
def PL (B : Nat) (U : Nat → Prop) (w : World) : R → Ending → Prop
 | .ret d, e => ∃ u, e = .returned u ∧ drep B U w d u
 | .own t sz l, e => ∃ u xs, e = .returned u ∧ drepss B (fun b => U b ∧ some b ≠ u.ownBlock) w l xs ∧ ((∀ x ∈ l, x.length = sz) ∧ ∀ u ∈ xs, u.oneCell' = true) ∧ w.ownsRow B t sz u l.length xs
 | .panic d, e => ∃ u, e = .panicked [{ v := u, recovered := false }] ∧ drep B U w d u
def VP (P : Program) (f : FuncId) (ds : List D) (post : R → Prop) : Prop :=
 (∀ args w, (callFunc f args).run P w = .ok (.enter f args) w) ∧ ∀ (U : Nat → Prop) (w : World) (us : List Value), dreps w.heap.size U w ds us →
  Calls P f us.toArray w fun e w' => Below w.heap.size w w' ∧ ∃ r, post r ∧ PL w.heap.size (fun b => U b ∨ w.heap.size ≤ b) w' r e
theorem VP.mono {P : Program} {f : FuncId} {ds : List D} {post post' : R → Prop} (h : VP P f ds post) (hp : ∀ r, post r → post' r) : VP P f ds post' :=
 ⟨h.1, fun U w us hu => (h.2 U w us hu).mono fun _ _ ⟨h1, r, h2, h3⟩ => ⟨h1, r, hp _ h2, h3⟩⟩
section
variable {B : Nat} {g : G} {w : World} {st : List E}
theorem GD {nw : Bool} {U : Nat → Prop} {e : TypeId} {sz : Nat} {u : Value} {l : List (List D)} {xs : List Value} (h1 : drepss B U w l xs) (h2 : ∀ x ∈ l, x.length = sz) (h0 : ∀ u ∈ xs, u.oneCell' = true) (h3 : w.ownsRow 0 e sz u l.length xs) (hnw : nw = true → ∀ b, u.ownBlock = some b → B ≤ b) (hU : ∀ b, u.ownBlock = some b → U b) : drep B U w (.sl false nw l) u := by
 simp only [drep]
 have hlen := h3.1
 rcases h3.2 with ⟨rfl, h4⟩ | ⟨b, cap, cur, rfl, _, hh, hn, hc, hs, ht⟩
 ·have : l = [] := List.eq_nil_of_length_eq_zero h4
  subst this
  simp only [drepss] at h1
  subst h1
  exact ⟨none, 0, [], rfl, by simp, by simp, (fun h => by cases h), fun _ => rfl, ⟨0, by simp⟩, by simp, (fun j u hj => by simp at hj), by simp only [drepss]⟩
 ·refine ⟨_, cap, xs, rfl, hn, hc, (fun h => by cases h), (fun h => by cases h), ⟨sz, h2⟩, h0, (fun j v hj => ⟨b, 0, rfl, ⟨hU b rfl, fun h => ⟨hnw h b rfl, fun cs' t' fz' hc' => by rw [hh] at hc'; cases hc'; rfl⟩⟩, ?_⟩), h1⟩
  rw [Nat.zero_add, cell_of_row w b j cur e (0, 0) hh]
  rw [← ht, List.getElem?_take] at hj
  split at hj
  ·simpa using hj
  ·cases hj
end
def T5 (k off : Nat) (st : List E) : Nat → List V
 | 0 => []
 | n + 1 => match Aq k off st with
  | none => []
  | some v => v :: T5 k (off + 1) st n
def Ik {α : Type} (sz : Nat) : Nat → List α → List (List α)
 | 0, _ => []
 | n + 1, l => l.take sz :: Ik sz n (l.drop sz)
theorem Gm {α : Type} {sz : Nat} : ∀ {n : Nat} {l : List α}, (Ik sz n l).length = n
 | 0, _ => rfl
 | n + 1, l => by simp [Ik, Gm]
theorem LF {B : Nat} {U : Nat → Prop} {w : World} : ∀ {l : List D} {cs : List Value}, dreps B U w l cs → ∀ i, dreps B U w (l.take i) (cs.take i) ∧ dreps B U w (l.drop i) (cs.drop i)
 | [], _, h, i => by simp only [dreps] at h; subst h; simp [dreps]
 | x :: xs, _, h, i => by
  have h0 := h
  simp only [dreps] at h
  obtain ⟨y, ys, e, k1, k2⟩ := h
  subst e
  cases i with
  | zero => exact ⟨by simp [dreps], by simpa using h0⟩
  | succ i => obtain ⟨p, q⟩ := LF k2 i; simp only [List.take_succ_cons, List.drop_succ_cons, dreps]; exact ⟨⟨y, _, rfl, k1, p⟩, q⟩
def SH {α : Type} : Nat → List α → Option (List α × List α)
 | 0, l => some ([], l)
 | _ + 1, [] => some ([], [])
 | n + 1, x :: l => match SH n l with
  | some (a, b) => some (x :: a, b)
  | none => none
def LK {α : Type} (sz : Nat) : Nat → List α → Option (List (List α))
 | 0, _ => some []
 | n + 1, l => match SH sz l with
  | some (a, b) => (match LK sz n b with
   | some r => some (a :: r)
   | none => none)
  | none => none
theorem RK {α : Type} : ∀ {n : Nat} {l : List α} {a b : List α}, SH n l = some (a, b) → a = l.take n ∧ b = l.drop n
 | 0, l, a, b, h => by simp only [SH, Option.some.injEq, Prod.mk.injEq] at h; obtain ⟨rfl, rfl⟩ := h; simp
 | n + 1, [], a, b, h => by simp only [SH, Option.some.injEq, Prod.mk.injEq] at h; obtain ⟨rfl, rfl⟩ := h; simp
 | n + 1, x :: l, a, b, h => by
  simp only [SH] at h
  split at h
  ·rename_i a' b' hr; cases h; obtain ⟨h1, h2⟩ := RK hr; simp [h1, h2]
  ·cases h
theorem M1 {α : Type} {sz : Nat} : ∀ {n : Nat} {l : List α} {r : List (List α)}, LK sz n l = some r → r = Ik sz n l
 | 0, l, r, h => by simp only [LK, Option.some.injEq] at h; subst h; rfl
 | n + 1, l, r, h => by
  simp only [LK] at h
  split at h
  ·rename_i a b hc
   split at h
   ·rename_i r' hr; cases h; obtain ⟨h1, h2⟩ := RK hc; rw [Ik, h1, M1 hr, h2]
   ·cases h
  ·cases h
theorem GO {B : Nat} {U : Nat → Prop} {w : World} {sz : Nat} : ∀ {n : Nat} {l : List D} {cs : List Value}, l.length = n * sz → dreps B U w l cs → drepss B U w (Ik sz n l) cs ∧ ∀ x ∈ Ik sz n l, x.length = sz
 | 0, l, cs, hl, h => by
  have : l = [] := List.eq_nil_of_length_eq_zero (by omega)
  subst this
  simp only [dreps] at h; subst h
  simp [Ik, drepss]
 | n + 1, l, cs, hl, h => by
  rw [Nat.add_mul, Nat.one_mul] at hl
  have hp : dreps B U w (l.take sz) (cs.take sz) ∧ dreps B U w (l.drop sz) (cs.drop sz) := LF h sz
  obtain ⟨k1, k2⟩ := GO (sz := sz) (n := n) (l := l.drop sz) (by simp; omega) hp.2
  refine ⟨?_, fun x hx => ?_⟩
  ·simp only [Ik, drepss]
   exact ⟨cs.take sz, cs.drop sz, (List.take_append_drop sz cs).symm, hp.1, k1⟩
  ·rcases List.mem_cons.1 hx with rfl | hx
   ·simp; omega
   ·exact k2 x hx
mutual
/-- data out of a value, lent for a call -/
def O3 (st : List E) : Nat → V → Option D
 | _, .d x => some x
 | _, .po true x => some x
 | _, .ep l => some (.pt l)
 | 0, _ => none
 | n + 1, .agg l => match C2 st n l with
  | some ds => some (.agg ds)
  | none => none
 | n + 1, .tup l => match C2 st n l with
  | some ds => some (.tup ds)
  | none => none
 | n + 1, .ifc t x => match O3 st n x with
  | some d => some (.ifc t d)
  | none => none
 | _ + 1, .row k ver => match Az k st with
  | some (_, nw, v, _, _, l) => (match Nat.beq ver v with
   | true => some (.sl false nw l)
   | false => none)
  | none => none
 | n + 1, .ptr k off => match C2 st n (T5 k off st 64) with
  | some ds => some (.pt ds)
  | none => none
 | n + 1, .sv k off m _ sz => match AM k off st (m * sz) with
  | some vs => (match Ca vs with
   | true => (match C2 st n vs with
    | some ds => (match LK sz m ds with
     | some cs => some (.sl false false cs)
     | none => none)
    | none => none)
   | false => none)
  | none => none
 | _ + 1, .fn f [] [] => some (.lit (.func f #[] #[]))
 | n + 1, .fn (.func f) fi ca => match C2 st n fi with
  | some a => (match C2 st n ca with
   | some c => some (.fn f a c)
   | none => none)
  | none => none
 | _, _ => none
def C2 (st : List E) : Nat → List V → Option (List D)
 | _, [] => some []
 | 0, _ => none
 | n + 1, v :: vs => match O3 st n v with
  | none => none
  | some d => (match C2 st n vs with
   | none => none
   | some ds => some (d :: ds))
end
section
variable {B : Nat} {g : G} {w : World} {st : List E}
theorem EM {k : Nat} : ∀ {n off : Nat} {vs : List V}, AM k off st n = some vs → vs.length = n
 | 0, _, vs, h => by simp only [AM, Option.some.injEq] at h; subst h; rfl
 | n + 1, off, vs, h => by
  simp only [AM] at h
  split at h
  ·cases h
  ·split at h
   ·cases h
   ·rename_i ys hys; cases h; simp [EM hys]
theorem FJ (h : AC B g w st) {k : Nat} {b : Nat} (hb : g.bx k = some b) : ∀ {n off : Nat} {vs : List V}, AM k off st n = some vs → ∃ us, vreps B g w vs us ∧ At (fun _ => True ∧ True) w (some ⟨b, off, none⟩) us
 | 0, off, vs, hv => by simp only [AM, Option.some.injEq] at hv; subst hv; exact ⟨[], by simp [vreps], fun j u hj => by simp at hj⟩
 | n + 1, off, vs, hv => by
  simp only [AM] at hv
  split at hv
  ·cases hv
  ·rename_i v hv1
   split at hv
   ·cases hv
   ·rename_i ys hys
    cases hv
    obtain ⟨b', rcs, ty, u, m1, m2, m3, m4⟩ := h.cell hv1
    rw [hb] at m1; cases m1
    obtain ⟨us, h1, h2⟩ := FJ h hb hys
    refine ⟨u :: us, by simp only [vreps]; exact ⟨u, us, rfl, m4, h1⟩, fun j x hj => ?_⟩
    cases j with
    | zero => simp at hj; subst hj; exact ⟨b, off, rfl, ⟨trivial, trivial⟩, by rw [Nat.add_zero, cell_of_row w b off rcs ty (0, 0) m2]; exact m3⟩
    | succ j =>
     obtain ⟨b2, o2, e1, e2, e3⟩ := h2 j x (by simpa using hj)
     cases e1
     exact ⟨b, off, rfl, ⟨trivial, trivial⟩, by rw [show off + (j + 1) = off + 1 + j by omega]; exact e3⟩
theorem OE (h : AC B g w st) {k : Nat} {b : Nat} (hb : g.bx k = some b) : ∀ (n off : Nat), ∃ us, vreps B g w (T5 k off st n) us ∧ At (fun _ => True ∧ True) w (some ⟨b, off, none⟩) us
 | 0, off => ⟨[], by simp [T5, vreps], fun j u hj => by simp at hj⟩
 | n + 1, off => by
  simp only [T5]
  split
  ·exact ⟨[], by simp [vreps], fun j u hj => by simp at hj⟩
  ·rename_i v hv
   obtain ⟨b', rcs, ty, u, m1, m2, m3, m4⟩ := h.cell hv
   rw [hb] at m1; cases m1
   obtain ⟨us, h1, h2⟩ := OE h hb n (off + 1)
   refine ⟨u :: us, by simp only [vreps]; exact ⟨u, us, rfl, m4, h1⟩, fun j x hj => ?_⟩
   cases j with
   | zero => simp at hj; subst hj; exact ⟨b, off, rfl, ⟨trivial, trivial⟩, by rw [Nat.add_zero, cell_of_row w b off rcs ty (0, 0) m2]; exact m3⟩
   | succ j =>
    obtain ⟨b2, o2, e1, e2, e3⟩ := h2 j x (by simpa using hj)
    cases e1
    exact ⟨b, off, rfl, ⟨trivial, trivial⟩, by rw [show off + (j + 1) = off + 1 + j by omega]; exact e3⟩
theorem At.of_ptr {U : Nat → Prop} {q : Prop} {b o : Nat} {cs : List Value} (h : At (fun _ => True ∧ True) w (some ⟨b, o, none⟩) cs) (hb : U b) (hq : q) : At (fun b => U b ∧ q) w (some ⟨b, o, none⟩) cs := fun j u hj => by
 obtain ⟨b2, o2, e1, _, e3⟩ := h j u hj
 cases e1
 exact ⟨b, o, rfl, ⟨hb, hq⟩, e3⟩
mutual
theorem Fg {nb : Nat} (hi : CG B nb g w) (h : AC B g w st) {U : Nat → Prop} (hU : ∀ b, ¬ g.ex b ∨ g.pl b → U b) : ∀ {n : Nat} {v : V} {d : D}, O3 st n v = some d → ∀ {u : Value}, vrep B g w v u → drep B U w d u := fun {n v d} hd {u} hu => by
 have hpU : ∀ b, g.prot b → U b := fun b hb => hU b (.inl fun he => hb (.inl he))
 unfold O3 at hd
 split at hd
 ·cases hd
  simp only [vrep] at hu
  exact A4 (Nat.le_refl _) (fun b _ hb => ⟨hpU b hb, rfl⟩) hu
 ·cases hd
  simp only [vrep, C4] at hu
  obtain ⟨y, rfl, hu⟩ := hu
  exact A4 (Nat.le_refl _) (fun b _ hb => ⟨hU b (.inr hb.1), rfl⟩) hu
 ·cases hd
  simp only [vrep] at hu
  obtain ⟨b, o, cs, e, k1, k2⟩ := hu
  simp only [drep]
  exact ⟨b, o, cs, e, k1.imp fun b hb => ⟨hpU b hb, trivial⟩, Ew (Nat.le_refl _) (fun b _ hb => ⟨hpU b hb, rfl⟩) k2⟩
 ·cases hd
 ·rename_i n l
  split at hd
  ·rename_i ds hds; cases hd
   simp only [vrep] at hu
   obtain ⟨cs, e, k⟩ := hu
   simp only [drep]
   exact ⟨cs, e, Ci hi h hU hds k⟩
  ·cases hd
 ·rename_i n l
  split at hd
  ·rename_i ds hds; cases hd
   simp only [vrep] at hu
   obtain ⟨cs, e, k⟩ := hu
   simp only [drep]
   exact ⟨cs, e, Ci hi h hU hds k⟩
  ·cases hd
 ·rename_i n t x
  split at hd
  ·rename_i y hy; cases hd
   simp only [vrep] at hu
   obtain ⟨z, e, k⟩ := hu
   simp only [drep]
   exact ⟨z, e, Fg hi h hU hy k⟩
  ·cases hd
 ·rename_i n k ver
  split at hd
  ·rename_i o nw v e sz l hr
   split at hd
   ·rename_i hb
    have := Nat.eq_of_beq_eq_true hb
    subst this
    cases hd
    simp only [vrep] at hu
    obtain ⟨v', xs, h1, h2, h3, hn, h4⟩ := h.row hr
    rw [hu.1] at h1; cases h1
    rcases h4 with ⟨_, h4, h5⟩ | ⟨_, h4, h5⟩
    ·exact GD (AL (Nat.le_refl _) (fun b _ hb => ⟨hpU b hb, rfl⟩) h2) h3.1 h3.2.1 h4 hn fun b hb => hU b (.inl (hi.exrb (h5.trans hb)))
    ·exact A4 (Nat.le_refl _) (fun b _ hb => ⟨hpU b hb, rfl⟩) h5
   ·cases hd
  ·cases hd
 ·rename_i n k off
  split at hd
  ·rename_i ds hds; cases hd
   simp only [vrep] at hu
   obtain ⟨b, hb, rfl⟩ := hu
   obtain ⟨us, h1, h2⟩ := OE h hb 64 off
   simp only [drep]
   exact ⟨b, off, us, rfl, h2.of_ptr (hU b (.inl (hi.exbx hb))) trivial, Ci hi h hU hds h1⟩
  ·cases hd
 ·rename_i n k off m cap sz
  split at hd
  ·rename_i vs hvs
   split at hd
   ·rename_i hlv
    split at hd
    ·rename_i ds hds
     split at hd
     rotate_left
     ·cases hd
     rename_i cs hcs
     cases hd
     rw [M1 hcs]
     simp only [vrep] at hu
     obtain ⟨b, hb, rfl, hc1, hc2⟩ := hu
     obtain ⟨us, h1, h2⟩ := FJ h hb hvs
     have hlen : ds.length = m * sz := by rw [← EM hvs, ← C0 h1, Bx (Ci hi h hU hds h1)]
     obtain ⟨k1, k2⟩ := GO hlen (Ci hi h hU hds h1)
     simp only [drep]
     exact ⟨_, cap, us, by rw [Gm], by rw [Gm]; exact hc1, hc2, (fun h => by cases h), (fun h => by cases h), ⟨sz, k2⟩, Et hlv h1, (h2.of_ptr (hU b (.inl (hi.exbx hb))) trivial).imp fun _ h => ⟨h.1, fun h => by cases h⟩, k1⟩
    ·cases hd
   ·cases hd
  ·cases hd
 ·cases hd
  simp only [vrep, vreps] at hu
  obtain ⟨xs, ys, e, rfl, rfl⟩ := hu
  simp only [drep]; exact e
 ·rename_i n f fi ca _
  split at hd
  ·rename_i a ha
   split at hd
   ·rename_i c hc; cases hd
    simp only [vrep] at hu
    obtain ⟨xs, ys, e, k1, k2⟩ := hu
    simp only [drep]
    exact ⟨xs, ys, e, Ci hi h hU ha k1, Ci hi h hU hc k2⟩
   ·cases hd
  ·cases hd
 ·cases hd
theorem Ci {nb : Nat} (hi : CG B nb g w) (h : AC B g w st) {U : Nat → Prop} (hU : ∀ b, ¬ g.ex b ∨ g.pl b → U b) : ∀ {n : Nat} {v : List V} {d : List D}, C2 st n v = some d → ∀ {u : List Value}, vreps B g w v u → dreps B U w d u := fun {n v d} hd {u} hu => by
 unfold C2 at hd
 split at hd
 ·cases hd; simp only [vreps] at hu; simp only [dreps]; exact hu
 ·cases hd
 ·rename_i n v vs
  split at hd
  ·cases hd
  ·rename_i x hx
   split at hd
   ·cases hd
   ·rename_i xs hxs
    cases hd
    simp only [vreps] at hu
    obtain ⟨y, ys, e, k1, k2⟩ := hu
    simp only [dreps]
    exact ⟨y, ys, e, Fg hi h hU hx k1, Ci hi h hU hxs k2⟩
end
end
abbrev OI (st : List E) (v : V) : Option D := O3 st 64 v
inductive Cr (P : Program) (s : St) : List ResultVar → List V → Prop where
 | nil : Cr P s [] []
 | tmp {t : Tmp} {v : V} {rs : List ResultVar} {vs : List V} (h : AA t s.tm = some v) (k : Cr P s rs vs) : Cr P s (.tmp t :: rs) (v :: vs)
 | cell {t : Tmp} {ty : TypeId} {b off sz : Nat} {z : List Value} {v : V} {rs : List ResultVar} {vs : List V} (hT : BE P ty false sz z) (h : AA t s.tm = some (.ptr b off)) (h2 : Aq b off s.st = some v) (k : Cr P s rs vs) : Cr P s (.cell t ty :: rs) (v :: vs)
 | cells {t : Tmp} {ty : TypeId} {b off sz : Nat} {z : List Value} {v : List V} {rs : List ResultVar} {vs : List V} (hT : BE P ty true (sz + 1) z) (h : AA t s.tm = some (.ptr b off)) (h2 : AM b off s.st (sz + 1) = some v) (k : Cr P s rs vs) : Cr P s (.cell t ty :: rs) (.agg v :: vs)
def Dq : List V → V
 | [v] => v
 | vs => .tup vs
def Hm (a : Act) : ResultVar → Sem Value
 | .tmp t => pure (a.tmps.getD t undef)
 | .cell b t => do loadVar t (← asAddr (a.tmps.getD b undef))
theorem Cr.run {P : Program} {cx : Cx} {s : St} {g : G} {a : Act} {w : World} (hS : Dg cx g a w s) {w2 : World} (hw : ∀ b, g.own b → w2.heap[b]? = w.heap[b]?) {rs : List ResultVar} {vs : List V} (h : Cr P s rs vs) :
  ∃ us : List Value, vreps cx.B g w vs us ∧ (rs.mapM (Hm a)).run P w2 = .ok us w2 := by
 induction h with
 | nil => exact ⟨[], by simp [vreps], by simp⟩
 | tmp h k ih =>
  obtain ⟨us, h1, h2⟩ := ih
  exact ⟨_ :: us, by simp only [vreps]; exact ⟨_, us, rfl, hS.tm h, h1⟩, by simp [List.mapM_cons, Hm, h2]⟩
 | cell hT h hc k ih =>
  obtain ⟨us, h1, h2⟩ := ih
  have hp := hS.tm h
  simp only [vrep] at hp
  obtain ⟨b, hb, hp⟩ := hp
  obtain ⟨b', rcs, ty, u, k1, k2, k3, k4⟩ := hS.st.cell hc
  rw [hb] at k1; cases k1
  have := Ce (P := P) (hT := hT) (w := w2) (a := ⟨b, _, none⟩) (u := u) (by rw [cell_of_row w2 b _ rcs ty (0, 0) ((hw b (.inr (.inl ⟨_, hb⟩))).trans k2)]; exact k3)
  exact ⟨u :: us, by simp only [vreps]; exact ⟨u, us, rfl, k4, h1⟩, by simp [List.mapM_cons, Hm, Sem.run_bind, h2, hp, asAddr, this]⟩
 | cells hT h hc k ih =>
  obtain ⟨us, h1, h2⟩ := ih
  have hp := hS.tm h
  simp only [vrep] at hp
  obtain ⟨b, hb, hp⟩ := hp
  obtain ⟨b', rcs, ty, xs, k1, k2, k3, k4, k5⟩ := hS.st.cells hc
  rw [hb] at k1; cases k1
  have := Cs (P := P) (hT := hT) (w := w2) (b := b) (us := xs) k4 (fun j u hj => by rw [cell_of_row w2 b _ rcs ty (0, 0) ((hw b (.inr (.inl ⟨_, hb⟩))).trans k2)]; exact k5 j u hj)
  exact ⟨.agg xs.toArray :: us, by simp only [vreps]; exact ⟨_, us, rfl, (by simp only [vrep]; exact ⟨xs, rfl, k3⟩), h1⟩, by simp [List.mapM_cons, Hm, Sem.run_bind, h2, hp, asAddr, this]⟩
theorem Cr.all {P : Program} {cx : Cx} {s : St} {g : G} {a : Act} {w : World} (hS : Dg cx g a w s) {w2 : World} (hw : ∀ b, g.own b → w2.heap[b]? = w.heap[b]?) {fn : Func} {vs : List V} (h : Cr P s fn.results.toList vs) :
  ∃ u, (results fn a.tmps).run P w2 = .ok u w2 ∧ vrep cx.B g w (Dq vs) u := by
 obtain ⟨us, h1, h2⟩ := h.run hS hw
 have hlen := C0 h1
 have hm : (fn.results.mapM (Hm a)).run P w2 = .ok us.toArray w2 := by
  rw [Array.mapM_eq_mapM_toList]
  have : (List.toArray <$> List.mapM (Hm a) fn.results.toList : Sem (Array Value)) = (List.mapM (Hm a) fn.results.toList) >>= fun l => pure l.toArray := by rw [← bind_pure_comp]
  rw [this, Sem.run_bind, h2]
  rfl
 have key : Go.results fn a.tmps = (fn.results.mapM (Hm a)) >>= fun vs => pure (if h : vs.size = 1 then vs[0] else .tuple vs) := by
  unfold Go.results
  congr 1
 rw [key, Sem.run_bind, hm]
 simp only [Result.andThen_ok]
 by_cases hone : us.length = 1
 ·obtain ⟨u, rfl⟩ := List.length_eq_one_iff.1 hone
  rw [hlen] at hone
  obtain ⟨v, rfl⟩ := List.length_eq_one_iff.1 hone
  simp only [vreps] at h1
  obtain ⟨y, ys, e, k1, k2⟩ := h1
  cases e
  exact ⟨u, by simp, k1⟩
 ·refine ⟨.tuple us.toArray, by simp [hone], ?_⟩
  have : Dq vs = .tup vs := by
   cases vs with
   | nil => rfl
   | cons v vs => cases vs with
    | nil => simp at hlen; exact (hone hlen).elim
    | cons _ _ => rfl
  rw [this]
  simp only [vrep]
  exact ⟨us, rfl, h1⟩
structure Left (bs : List Nat) (w w' : World) : Prop where
 os : w'.os = w.os
 tape : w'.tape = w.tape
 output : w'.output = w.output
 size : w'.heap.size = w.heap.size
 block : ∀ b, b ∉ bs → w'.heap[b]? = w.heap[b]?
theorem FT {F : Fence} {n : Nat} {P : Program} {fn : Func} {tmps : Array Value} {T : Ending → World → Prop} {u : FrameMode} {r : List Deferred} (hu : u ≠ .run) : ∀ (bs : List Nat) (w : World), bs.Nodup → (∀ b ∈ bs, w.heap[b]? = some (.deferred (some []))) →
  (∀ w', Left bs w w' → LeavesInM F n P fn tmps T r u w') → LeavesInM F n P fn tmps T (bs.map (fun b => { target := .collected b, args := #[] }) ++ r) u w
 | [], w, _, _, h => by simp only [List.map_nil, List.nil_append]; exact h w ⟨rfl, rfl, rfl, rfl, fun _ _ => rfl⟩
 | b :: bs, w, hn, hb, h => by
  simp only [List.map_cons, List.cons_append, LeavesInM]
  have hn' := List.nodup_cons.1 hn
  refine ⟨hu, .inl ⟨b, _, rfl, run_takeDeferred (hb b (by simp)), ?_⟩⟩
  have hother : ∀ c, c ≠ b → (w.putObj b (.deferred none)).heap[c]? = w.heap[c]? := fun c hc => by
   simp only [World.putObj, Array.getElem?_setIfInBounds]
   rw [if_neg (fun e => hc e.symm)]
  refine FT hu bs _ hn'.2 (fun c hc => (hother c (fun e => hn'.1 (e ▸ hc))).trans (hb c (by simp [hc]))) fun w' hl => h w' ⟨hl.os, hl.tape, hl.output, hl.size.trans (by simp [World.putObj]), fun c hc => ?_⟩
  simp only [List.mem_cons, not_or] at hc
  exact (hl.block c hc.2).trans (hother c hc.1)
theorem B9 {F : Fence} {n : Nat} {P : Program} {fn : Func} {tmps : Array Value} {T : Ending → World → Prop} {u : FrameMode} (hu : u ≠ .run) (bs : List Nat) (w : World) (hn : bs.Nodup) (hb : ∀ b ∈ bs, w.heap[b]? = some (.deferred (some [])))
  (h : ∀ w', Left bs w w' → LeavesIn F n P fn tmps T [] u w') : LeavesInM F n P fn tmps T (bs.map fun b => { target := .collected b, args := #[] }) u w := by
 have := FT (F := F) (n := n) (P := P) (fn := fn) (tmps := tmps) (T := T) (r := []) hu bs w hn hb fun w' hl => by simp only [LeavesInM]; exact h w' hl
 simpa using this
def CF : Nat → List V → List (Nat × V)
 | _, [] => []
 | i, v :: vs => (i, v) :: CF (i + 1) vs
theorem IF {t : Nat} {v : V} : ∀ {l : List V} {i : Nat}, AA t (CF i l) = some v → i ≤ t ∧ l[t - i]? = some v
 | [], _, h => by simp [CF, AA] at h
 | x :: xs, i, h => by
  simp only [CF, AA] at h
  split at h
  ·rename_i hb
   have := Nat.eq_of_beq_eq_true hb
   subst this
   cases h
   exact ⟨Nat.le_refl _, by simp⟩
  ·obtain ⟨h1, h2⟩ := IF h
   refine ⟨by omega, ?_⟩
   rw [show t - i = (t - (i + 1)) + 1 by omega]
   simpa using h2
def Fw (P : Program) (rs : List ResultVar) (post : R → Prop) : VE → St → Prop
 | .normal, s | .ret, s => ∃ vs, Cr P s rs vs ∧ ((∃ d, OI s.st (Dq vs) = some d ∧ post (.ret d)) ∨
   ∃ k nw ver e sz l, Dq vs = .row k ver ∧ Az k s.st = some (true, nw, ver, e, sz, l) ∧ post (.own e sz l))
 | .panic v, s => ∃ d, OI s.st v = some d ∧ post (.panic d)
 | _, _ => False
theorem Bu {P : Program} {f : FuncId} {fn : Func} (hf : P.funcs[f]? = some fn) (hn : (fn.name == "runtime.NumGoroutine") = false) (hb : fn.body.isNone = false) (args : Array Value) (w : World) : (callFunc f args).run P w = .ok (.enter f args) w := by
 have : (program : Sem Program).run P w = .ok P w := rfl
 unfold callFunc
 rw [Sem.run_bind, this]
 simp only [Result.andThen_ok, hf, hn, hb]
 rfl
theorem GX {F : Fence} {n : Nat} {P : Program} {f : FuncId} {fn : Func} {c : Code} {args : Array Value} {w : World} {R : Ending → World → Prop}
  (hf : P.funcs[f]? = some fn) (hb : fn.body = some c) (hF : F.fn f)
  (h : KJ f F n P c (bodyPostM F n P fn R) { tmps := args ++ Array.replicate (fn.ntmps - args.size) undef, defers := [] } w) (hro : F.round = none := by rfl) : CallsIn F n P f args w R := by
 refine ⟨hF, fun cs hr => ?_⟩
 let b : Frame := { (default : Frame) with fn := f, kind := .normal, roundOf := none }
 have henter : Frame.enter P f args .normal =
   b.atR { tmps := args ++ Array.replicate (fn.ntmps - args.size) undef, defers := [] } [.code c] := by
  simp [Frame.enter, Frame.atR, hf, hb, b]
 obtain ⟨e, a', w', hq, harr⟩ := h b [] cs hro.symm hF rfl hr
 rw [← henter] at harr
 cases e with
 | normal =>
  obtain ⟨e', w'', fr', hR, hs, hfn, hl⟩ := leaves_stepsInM a'.defers .returning w' { b.atR a' [] with mode := .returning } cs rfl rfl rfl hf rfl hF hr hq
  exact ⟨e', w'', fr', hR, ComesIn.of_steps (StepsIn.trans harr (.one (fenced_calm (fr := b.atR a' []) hF hr rfl) (stepR_end rfl))) hs, hfn, hl⟩
 | ret =>
  obtain ⟨todo, hs₀⟩ := harr.1 rfl
  obtain ⟨e', w'', fr', hR, hs, hfn, hl⟩ := leaves_stepsInM a'.defers .returning w' { b.atR a' todo with mode := .returning } cs rfl rfl rfl hf rfl hF hr hq
  exact ⟨e', w'', fr', hR, ComesIn.of_steps hs₀ hs, hfn, hl⟩
 | panic chain =>
  obtain ⟨todo, hs₀⟩ := harr
  obtain ⟨e', w'', fr', hR, hs, hfn, hl⟩ := leaves_stepsInM a'.defers (.panicking chain) w' { b.atR a' todo with mode := .panicking chain } cs rfl rfl rfl hf rfl hF hr hq
  exact ⟨e', w'', fr', hR, ComesIn.of_steps hs₀ hs, hfn, hl⟩
 | exit id => exact hq.elim
 | goto l => exact hq.elim
 | outgrown => exact ⟨.outgrown, w', b, hq, harr.resolve_left (by simp [b]), rfl, trivial⟩
theorem S9 {P : Program} {f : FuncId} {fn : Func} {c : Code} {ds : List D} {post : R → Prop} (hf : P.funcs[f]? = some fn) (hb : fn.body = some c) {N : Nat} (hN : fn.ntmps = N) (hle : Nat.ble ds.length N = true) {rs : List ResultVar} (hrs0 : fn.results = rs.toArray)
  (h : ∀ B, SO P f ⟨N, none, B, 0, some B, []⟩ c ⟨CF 0 (ds.map .d), [], 0⟩ (Fw P rs post)) (hname : (fn.name == "runtime.NumGoroutine") = false := by kernel_rfl) : VP P f ds post := by
 refine ⟨Bu hf hname (by rw [hb]; rfl), ?_⟩
 have hrs : fn.results.toList = rs := by rw [hrs0]
 intro U w us hus
 have hlen := Bx hus
 have hle := Nat.le_of_ble_eq_true hle
 rw [← callsIn_wide (n := 0)]
 refine GX (F := Fence.wide) hf hb trivial ?_
 let g0 : G := ⟨fun b => ¬ U b ∧ b < w.heap.size, fun _ => none, fun _ => none, fun _ _ => none, fun _ => False, fun _ h => h.elim⟩
 have hp0 : ∀ b, g0.prot b ↔ U b ∨ w.heap.size ≤ b := fun b => by
  simp only [G.prot, G.own, g0]
  constructor
  ·intro h
   by_cases hU : U b
   ·exact .inl hU
   ·exact .inr (Nat.le_of_not_lt fun hlt => h (.inl ⟨hU, hlt⟩))
  ·rintro h (⟨h1, h2⟩ | ⟨k, hk⟩ | ⟨k, hk⟩)
   ·rcases h with h | h
    ·exact h1 h
    ·omega
   ·cases hk
   ·cases hk
 have hS : Dg ⟨N, none, w.heap.size, 0, some w.heap.size, []⟩ g0 { tmps := us.toArray ++ Array.replicate (fn.ntmps - us.toArray.size) undef, defers := [] } w ⟨CF 0 (ds.map .d), [], 0⟩ := by
  refine ⟨by simp [hN, hlen]; omega, fun {t v} hv => ?_, ⟨fun h => by simp [Aq] at h, fun h => by simp [Az] at h, fun h => by simp [Au] at h⟩, ⟨fun h => by simp [g0] at h, fun h => by simp [g0] at h, fun h => by simp [g0] at h, fun h => by simp [g0] at h, fun h => by simp [g0] at h, fun h => by simp [g0] at h, fun h => h.2, fun h => by simp [g0] at h, fun h => by simp [g0] at h, fun h => h.elim, Nat.le_refl _⟩, ⟨(fun _ h => by first | (cases h; fail_if_success (focus skip)) | (cases h; exact Nat.le_refl _)), [], [], rfl, by simp, by simp, rfl⟩⟩
  obtain ⟨h1, h2⟩ := IF hv
  simp only [Nat.sub_zero, List.getElem?_map, Option.map_eq_some_iff] at h2
  obtain ⟨d, hd, rfl⟩ := h2
  obtain ⟨u, hu, k⟩ := BU hus hd
  have hlt := (List.getElem?_eq_some_iff.1 hu).1
  simp only [vrep]
  rw [Array.getD_eq_getD_getElem?, Array.getElem?_append_left (by simpa using hlt)]
  simp only [List.getElem?_toArray, hu, Option.getD_some]
  exact A4 (Nat.le_refl _) (fun b _ hb => ⟨(hp0 b).2 (.inl hb), rfl⟩) k
 refine HH (h w.heap.size 0 g0 w g0 _ w (Ei.refl _ _ _ _) hS) ?_
 rintro e a' w' ⟨g', s', e', hE, hS', he, hq⟩
 have hfin : ∀ {bs : List Nat} {w2 : World}, (∀ b ∈ bs, g'.prot b ∧ w.heap.size ≤ b ∧ w'.heap[b]? = some (.deferred (some []))) → Left bs w' w2 → Below w.heap.size w w2 ∧ (∀ b, g'.own b → w2.heap[b]? = w'.heap[b]?) ∧
   (∀ b cs t fz, w'.heap[b]? = some (.cells cs t fz) → (U b ∨ w.heap.size ≤ b) → (U b ∨ w.heap.size ≤ b) ∧ w2.heap[b]? = w'.heap[b]?) := fun {bs w2} hbs hl => by
  refine ⟨⟨hl.os.trans hE.os, hl.tape.trans hE.tape, hl.output.trans hE.output, by rw [hl.size]; exact hE.size, fun b hb => ?_⟩, fun b hb => hl.block b fun hm => (hbs b hm).1 hb, fun b cs t fz hc hu => ⟨hu, hl.block b fun hm => by rw [(hbs b hm).2.2] at hc; cases hc⟩⟩
  rw [hl.block b fun hm => by have := (hbs b hm).2.1; omega]
  by_cases hU : U b
  ·exact (hE.blk b hb ((hp0 b).2 (.inl hU))).2
  ·exact hE.exblk b ⟨hU, hb⟩ fun h => h.2
 have hex : ∀ b, ¬ g'.ex b ∨ g'.pl b → U b ∨ w.heap.size ≤ b := fun b hb => by
  rcases hb with hb | hb
  ·by_cases hU : U b
   ·exact .inl hU
   ·exact .inr (Nat.le_of_not_lt fun hlt => hb (hE.ex b ⟨hU, hlt⟩))
  ·exact .inr (hS'.inv.plB hb)
 obtain ⟨_, bs, rr, hds, hnd, hbs0, hrr⟩ := hS'.defers
 have hbs : ∀ b ∈ bs, g'.prot b ∧ w.heap.size ≤ b ∧ w'.heap[b]? = some (.deferred (some [])) := fun b hb => by
  obtain ⟨h1, ⟨m, h2, h3⟩, h4⟩ := hbs0 b hb
  cases h2; exact ⟨h1, h3, h4⟩
 simp only [Mr] at hrr
 rw [hrr, List.append_nil] at hds
 have hret : (∃ vs, Cr P s' rs vs ∧ ((∃ d, OI s'.st (Dq vs) = some d ∧ post (.ret d)) ∨ ∃ k nw ver e sz l, Dq vs = .row k ver ∧ Az k s'.st = some (true, nw, ver, e, sz, l) ∧ post (.own e sz l))) →
   LeavesInM Fence.wide 0 P fn a'.tmps (fun e w' => Below w.heap.size w w' ∧ ∃ r, post r ∧ PL w.heap.size (fun b => U b ∨ w.heap.size ≤ b) w' r e) a'.defers .returning w' := by
  rintro ⟨vs, hv, hq⟩
  rw [hds]
  refine B9 (by simp) bs w' hnd (fun b hb => (hbs b hb).2.2) fun w2 hl => ?_
  obtain ⟨f1, f2, f3⟩ := hfin hbs hl
  obtain ⟨u, h1, h2⟩ := Cr.all (fn := fn) hS' f2 (by rw [hrs]; exact hv)
  simp only [LeavesIn]
  refine ⟨u, h1, f1, ?_⟩
  rcases hq with ⟨d, hd, hp⟩ | ⟨k, nw, ver, e, sz, l, hk, hr, hp⟩
  ·refine ⟨_, hp, u, rfl, FI (fun _ _ _ h => At.cellsN f3 h) (Fg hS'.inv hS'.st hex hd h2)⟩
  ·rw [hk] at h2
   simp only [vrep] at h2
   obtain ⟨v, xs, k1, k2, k3, _, k4⟩ := hS'.st.row hr
   rw [h2.1] at k1; cases k1
   rcases k4 with ⟨_, k4, k5⟩ | ⟨k4, _⟩
   ·refine ⟨_, hp, u, xs, rfl, Gh (fun _ _ _ h => At.cellsN (U := fun b => (U b ∨ w.heap.size ≤ b) ∧ some b ≠ u.ownBlock) (fun b cs t fz hc hu => ⟨⟨(f3 b cs t fz hc hu.1).1, hu.2⟩, (f3 b cs t fz hc hu.1).2⟩) h) (AL (Nat.le_refl _) (fun b _ hb => ⟨⟨hex b (.inl fun he => hb (.inl he)), fun e => hb (.inr (.inr ⟨k, k5.trans e.symm⟩))⟩, rfl⟩) k2), ⟨k3.1, k3.2.1⟩, ?_⟩
    refine ⟨k4.1, ?_⟩
    rcases k4.2 with k6 | ⟨gb, cap, cur, hv', _, hh, rest⟩
    ·exact .inl k6
    ·have hown : g'.rb k = some gb := by rw [k5, hv']; rfl
     refine .inr ⟨gb, cap, cur, hv', ?_, (f2 gb (.inr (.inr ⟨k, hown⟩))).trans hh, rest⟩
     refine Nat.le_of_not_lt fun hlt => ?_
     rcases (by
      by_cases hU : U gb
      ·exact .inl hU
      ·exact .inr ⟨hU, hlt⟩ : U gb ∨ (¬ U gb ∧ gb < w.heap.size)) with hU | hx
     ·exact (hE.blk gb hlt ((hp0 gb).2 (.inl hU))).1 (.inr (.inr ⟨k, hown⟩))
     ·exact hS'.inv.exrb hown (hE.ex _ hx)
   ·cases k4
 cases e' with
 | normal => simp only [BV] at he; subst he; exact hret hq
 | ret => simp only [BV] at he; subst he; exact hret hq
 | panic v =>
  obtain ⟨u, rfl, hu⟩ := he
  obtain ⟨d, hd, hp⟩ := hq
  simp only [bodyPostM]
  rw [hds]
  refine B9 (by simp) bs w' hnd (fun b hb => (hbs b hb).2.2) fun w2 hl => ?_
  obtain ⟨f1, f2, f3⟩ := hfin hbs hl
  simp only [LeavesIn]
  exact ⟨f1, _, hp, u, rfl, FI (fun _ _ _ h => At.cellsN f3 h) (Fg hS'.inv hS'.st hex hd hu)⟩
 | exit id => exact hq.elim
 | goto l => exact hq.elim
theorem Abi {P : Program} {f : FuncId} {fn : Func} {c : Code} {ds : List D} {post : R → Prop} (hf : P.funcs[f]? = some fn) (hb : fn.body = some c) {N : Nat} (hN : fn.ntmps = N) (hle : Nat.ble ds.length N = true) {rs : List ResultVar} (hrs0 : fn.results = rs.toArray)
  (h : ∀ B, VW P ⟨N, none, B, 0, some B, []⟩ c ⟨CF 0 (ds.map .d), [], 0⟩ (Fw P rs post)) (hname : (fn.name == "runtime.NumGoroutine") = false := by kernel_rfl) : VP P f ds post := S9 hf hb hN hle hrs0 (fun B => FY (h B)) hname

end Go.Proofs.YtbgcjnfhadhjeaaGreat