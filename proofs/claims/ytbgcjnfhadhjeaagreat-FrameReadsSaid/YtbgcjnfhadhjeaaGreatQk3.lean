/- Walks by data and names, part 3: Arguments that came in, as data. The state of a walk, and what a piece of code does to it. What walks ask of types. -/
import Derived.Test.YtbgcjnfhadhjeaaGreatQk2
import Derived.Test.YtbgcjnfhadhjeaaGreatQk1
namespace Go.Proofs.YtbgcjnfhadhjeaaGreat
set_option maxRecDepth 20000
open Go.RowKit
structure IH (P : Program) (t : TypeId) {α : Type} (p : α → Prop) (f : α → List D) : Prop where
 len : ∀ y, p y → (f y).length = P.cellsOf t
 h : ∀ {H : Type} {enc : TypeId × Value → H} {w : World} {base : Nat} {spare : Nat → Bool} {held : Bool} {fuel : Nat} {cs : List Value} {x : DataW H × List MemPlace}, DataW.trod enc P w base spare held fuel t cs = some x →
  ∃ y, p y ∧ (∀ B, dreps B (fun _ => True) w (f y) cs) ∧ ∀ u ∈ cs, u.oneCell' = true
section
variable {P : Program} {t e : TypeId} {α β : Type} {p : α → Prop} {q : β → Prop} {f : α → List D} {g : β → List D}
theorem IH.map (h : IH P t p f) (k : ∀ y, p y → ∃ z, q z ∧ g z = f y) (hl : ∀ z, q z → (g z).length = P.cellsOf t) : IH P t q g := ⟨hl, fun hx => by
 obtain ⟨y, h1, h2, h3⟩ := h.h hx
 obtain ⟨z, k1, k2⟩ := k y h1
 exact ⟨z, k1, by rw [k2]; exact h2, h3⟩⟩
theorem IH.int {k : IntKind} (ht : P.underlying t = some (.int k)) (hs : P.cellsOf t = 1) : IH P t (fun n : Int => (Lit.int k n).wf = true) (fun n => [.lit (.int k n)]) := ⟨fun _ _ => by simp [hs], fun hx => by
 obtain ⟨n, rfl, _, hw⟩ := DataW.trod_int ht hx
 exact ⟨n, hw, fun B => by simp [dreps, drep], by simp [Value.oneCell']⟩⟩
theorem IH.i64 (ht : P.underlying t = some (.int .i64)) (hs : P.cellsOf t = 1) : IH P t (fun n : Int => -9223372036854775808 ≤ n ∧ n ≤ 9223372036854775807) (fun n => [.lit (.int .i64 n)]) :=
 (IH.int ht hs).map (fun n hn => ⟨n, bounds_i64 hn, rfl⟩) (fun _ _ => by simp [hs])
theorem IH.u8 (ht : P.underlying t = some (.int .u8)) (hs : P.cellsOf t = 1) : IH P t (fun _ : UInt8 => True) (fun y => [.lit (vb y)]) :=
 (IH.int ht hs).map (fun n hn => by
  have hb := bounds_u8 hn
  refine ⟨UInt8.ofNat n.toNat, trivial, ?_⟩
  simp only [vb, List.cons.injEq, and_true, D.lit.injEq, Value.int.injEq, true_and]
  simp
  omega) (fun _ _ => by simp [hs])
theorem IH.bool (ht : P.underlying t = some .bool) (hs : P.cellsOf t = 1) : IH P t (fun _ : Bool => True) (fun b => [.lit (.bool b)]) := ⟨fun _ _ => by simp [hs], fun hx => by
 obtain ⟨n, rfl, _⟩ := DataW.trod_bool ht hx
 exact ⟨n, trivial, fun B => by simp [dreps, drep], by simp [Value.oneCell']⟩⟩
theorem J4 {B : Nat} {U : Nat → Prop} {w : World} {γ : Type} (a : γ → List D) (b : γ → List Value) : ∀ {l : List γ}, (∀ y ∈ l, dreps B U w (a y) (b y)) → drepss B U w (l.map a) (l.flatMap b)
 | [], _ => by simp [drepss]
 | y :: l, h => by
  simp only [List.map_cons, List.flatMap_cons, drepss]
  exact ⟨_, _, rfl, h y (by simp), J4 a b fun z hz => h z (by simp [hz])⟩
theorem IH.slice (h : IH P e p f) (ht : P.underlying t = some (.slice e)) (hpos : 0 < P.cellsOf e) (hs : P.cellsOf t = 1) : IH P t (fun l : List α => (∀ y ∈ l, p y) ∧ l.length ≤ 9223372036854775807) (fun l => [.sl false false (l.map f)]) := ⟨fun _ _ => by simp [hs], fun {H enc w base spare held fuel cs x} hx => by
 rcases Deep.open_slice ht hx with ⟨rfl, _⟩ | ⟨ad, n, cap, m, k, D', Pl, rfl, hb, hl, hm, hmm, _, hx⟩
 ·exact ⟨[], ⟨by simp, by simp⟩, fun B => by simp only [dreps, List.map_nil]; exact ⟨_, [], rfl, NS false false B _ _ _ (by simp only [drep]), rfl⟩, by simp [Value.oneCell']⟩
 ·have hnm : n ≤ m := by rw [hmm]; split <;> omega
  obtain ⟨L, hl1, hp⟩ := Qh (α := { z : α × List Value // z.2.length = P.cellsOf e }) n (fun i z => p z.1.1 ∧ (∀ B, dreps B (fun _ => True) w (f z.1.1) z.1.2) ∧ (∀ u ∈ z.1.2, u.oneCell' = true) ∧ ∀ j v, z.1.2[j]? = some v → w.cell? (ad.add (i * P.cellsOf e + j)) = some v) (fun i hi => by
   obtain ⟨cs', h1, h2⟩ := hx i (by omega)
   obtain ⟨y, k1, k2, k3⟩ := h.h h2
   obtain ⟨h0, h3, h4⟩ := World.cells?_some h1
   have hlen : cs'.length = P.cellsOf e := by rw [Bx (k2 0), h.len y k1]
   refine ⟨⟨(y, cs'), hlen⟩, k1, k2, k3, fun j v hv => ?_⟩
   have hj := (List.getElem?_eq_some_iff.1 hv).1
   simp only at hj hv
   rw [← Deep.add_add, h4 j (by omega)]
   exact hv)
  have hp' : ∀ z ∈ L, p z.1.1 ∧ (∀ B, dreps B (fun _ => True) w (f z.1.1) z.1.2) ∧ ∀ u ∈ z.1.2, u.oneCell' = true := fun z hz => by
   obtain ⟨i, hi, rfl⟩ := List.mem_iff_getElem.1 hz
   exact ⟨(hp i hi).1, (hp i hi).2.1, (hp i hi).2.2.1⟩
  have hlm : (L.map fun z => z.1.1).length = n := by rw [List.length_map, hl1]
  refine ⟨L.map fun z => z.1.1, ⟨fun y hy => ?_, by rw [hlm]; unfold maxLen at hm; omega⟩, fun B => ?_, by simp [Value.oneCell']⟩
  ·obtain ⟨z, hz, rfl⟩ := List.mem_map.1 hy
   exact (hp' z hz).1
  simp only [dreps, drep]
  refine ⟨_, [], rfl, ⟨some ad, cap, L.flatMap fun z => z.1.2, by rw [List.length_map, hlm], by rw [List.length_map, hlm]; exact hl, hm, (fun h => by cases h), (fun h => by cases h), ⟨P.cellsOf e, fun x hx => ?_⟩, fun u hu => ?_, fun j u hu => ?_, ?_⟩, rfl⟩
  ·obtain ⟨y, hy, rfl⟩ := List.mem_map.1 hx
   obtain ⟨z, hz, rfl⟩ := List.mem_map.1 hy
   exact h.len _ (hp' z hz).1
  ·obtain ⟨z, hz, hu⟩ := List.mem_flatMap.1 hu
   exact (hp' z hz).2.2 u hu
  ·have hj := (List.getElem?_eq_some_iff.1 hu).1
   have hz2 : ∀ z : { z : α × List Value // z.2.length = P.cellsOf e }, z.1.2.length = P.cellsOf e := fun z => z.2
   rw [Pg (fun z : { z : α × List Value // z.2.length = P.cellsOf e } => z.1.2) (P.cellsOf e) hz2 L] at hj
   have hd : j / P.cellsOf e < L.length := Nat.div_lt_of_lt_mul (by rwa [Nat.mul_comm])
   have hmd : j % P.cellsOf e < P.cellsOf e := Nat.mod_lt _ hpos
   have hjj : j / P.cellsOf e * P.cellsOf e + j % P.cellsOf e = j := by rw [Nat.mul_comm]; exact Nat.div_add_mod j _
   have hc0 := (hp (j / P.cellsOf e) hd).2.2.2 (j % P.cellsOf e) u (by rw [← Ph (fun z : { z : α × List Value // z.2.length = P.cellsOf e } => z.1.2) (P.cellsOf e) hz2 L _ _ hd hmd, hjj]; exact hu)
   rw [hjj] at hc0
   have hl0 : 0 < L.length := Nat.lt_of_le_of_lt (Nat.zero_le _) hd
   obtain ⟨v0, hv0⟩ : ∃ v0, (L[0].1.2)[0]? = some v0 := ⟨_, List.getElem?_eq_getElem (l := L[0].1.2) (by rw [L[0].2]; exact hpos)⟩
   have hc1 := (hp 0 (by omega)).2.2.2 0 v0 hv0
   simp only [Nat.zero_mul, Nat.add_zero] at hc1
   have hs := World.cell?_spot hc1
   obtain ⟨b, o, sp⟩ := ad
   simp only [Addr.add, if_pos] at hs
   subst hs
   refine ⟨b, o, rfl, ⟨trivial, fun h => by cases h⟩, ?_⟩
   have hadd : (⟨b, o, none⟩ : Addr).add j = ⟨b, o + j, none⟩ := by unfold Addr.add; split <;> simp_all
   rw [hadd] at hc0
   exact hc0
  ·rw [List.map_map]
   exact J4 (fun z => f z.1.1) (fun z => z.1.2) fun z hz => (hp' z hz).2.1 B⟩
structure SL (P : Program) (tot off : Nat) (fs : List Field) {α : Type} (p : α → Prop) (f : α → List D) : Prop where
 len : ∀ y, p y → off + (f y).length = tot
 h : ∀ {H : Type} {enc : TypeId × Value → H} {w : World} {base : Nat} {spare : Nat → Bool} {held : Bool} {n : Nat} {cs : List Value}, cs.length = tot → (∀ fl ∈ fs, ∃ x, DataW.trod enc P w base spare held n fl.type ((cs.drop fl.offset).take (P.cellsOf fl.type)) = some x) →
  ∃ y, p y ∧ (∀ B, dreps B (fun _ => True) w (f y) (cs.drop off)) ∧ ∀ u ∈ cs.drop off, u.oneCell' = true
theorem SL.nil {tot off : Nat} (h : off = tot) : SL P tot off [] (fun _ : Unit => True) (fun _ => []) := ⟨fun _ _ => by simp [h], fun hc _ => ⟨(), trivial, fun B => by simp [dreps]; omega, by rw [List.drop_eq_nil_of_le (by omega)]; simp⟩⟩
theorem SL.cons {tot off : Nat} {fl : Field} {fs : List Field} (h : IH P fl.type p f) (ho : fl.offset = off) (hr : SL P tot (off + P.cellsOf fl.type) fs q g) : SL P tot off (fl :: fs) (fun y : α × β => p y.1 ∧ q y.2) (fun y => f y.1 ++ g y.2) := ⟨fun y hy => by
 have h1 := h.len y.1 hy.1
 have h2 := hr.len y.2 hy.2
 simp only [List.length_append]; omega, fun {H enc w base spare held n cs} hc hx => by
 obtain ⟨x, hx0⟩ := hx fl (by simp)
 obtain ⟨y, k1, k2, k3⟩ := h.h hx0
 obtain ⟨z, m1, m2, m3⟩ := hr.h hc fun fl hfl => hx fl (by simp [hfl])
 subst ho
 have e := List.take_append_drop (P.cellsOf fl.type) (List.drop fl.offset cs)
 rw [List.drop_drop] at e
 refine ⟨(y, z), ⟨k1, m1⟩, fun B => ?_, fun u hu => ?_⟩
 ·rw [← e]; exact Gi (k2 B) (m2 B)
 ·rw [← e] at hu
  rcases List.mem_append.1 hu with hu | hu
  ·exact k3 u hu
  ·exact m3 u hu⟩
theorem IH.struct {fs : Array Field} {tot : Nat} (ht : P.underlying t = some (.struct fs)) (hs : P.cellsOf t = tot) (h : SL P tot 0 fs.toList p f) : IH P t p f := ⟨fun y hy => by have := h.len y hy; omega, fun hx => by
 obtain ⟨xs, n, _, _, hl, hlen, hf⟩ := DataW.trod_struct ht hx
 obtain ⟨y, k1, k2, k3⟩ := h.h (hl.trans hs) fun fl hfl => by
  obtain ⟨i, hi, rfl⟩ := List.mem_iff_getElem.1 hfl
  have hi' : i < fs.size := by simpa using hi
  refine ⟨xs[i]'(by omega), ?_⟩
  have := hf i (fs.toList[i]) (by simp [hi'])
  rw [this, List.getElem?_eq_getElem]
 exact ⟨y, k1, by simpa using k2, by simpa using k3⟩⟩
theorem OR {H : Type} {enc : TypeId × Value → H} {w : World} {base : Nat} {spare : Nat → Bool} {held : Bool} {m : Nat} (h : IH P e p f) : ∀ (n : Nat) (cs : List Value), cs.length = n * P.cellsOf e → (∀ i, i < n → ∃ x, DataW.trod enc P w base spare held m e ((cs.drop (i * P.cellsOf e)).take (P.cellsOf e)) = some x) →
  ∃ l : List α, l.length = n ∧ (∀ y ∈ l, p y) ∧ (∀ B, dreps B (fun _ => True) w (l.flatMap f) cs) ∧ ∀ u ∈ cs, u.oneCell' = true
 | 0, cs, hc, _ => by
  have : cs = [] := List.eq_nil_of_length_eq_zero (by simpa using hc)
  subst this
  exact ⟨[], rfl, by simp, fun B => by simp [dreps], by simp⟩
 | n + 1, cs, hc, hx => by
  obtain ⟨x, h0⟩ := hx 0 (by omega)
  simp only [Nat.zero_mul, List.drop_zero] at h0
  obtain ⟨y, k1, k2, k3⟩ := h.h h0
  have e1 : (n + 1) * P.cellsOf e = P.cellsOf e + n * P.cellsOf e := by rw [Nat.add_mul]; omega
  obtain ⟨l, m1, m2, m3, m4⟩ := OR h n (cs.drop (P.cellsOf e)) (by rw [List.length_drop, hc]; omega) fun i hi => by
   obtain ⟨x, hx⟩ := hx (i + 1) (by omega)
   refine ⟨x, ?_⟩
   rw [List.drop_drop, ← hx, show (i + 1) * P.cellsOf e = P.cellsOf e + i * P.cellsOf e by rw [Nat.add_mul]; omega]
  have e2 := List.take_append_drop (P.cellsOf e) cs
  refine ⟨y :: l, by simp [m1], fun z hz => ?_, fun B => ?_, fun u hu => ?_⟩
  ·rcases List.mem_cons.1 hz with rfl | hz
   ·exact k1
   ·exact m2 z hz
  ·rw [List.flatMap_cons, ← e2]; exact Gi (k2 B) (m3 B)
  ·rw [← e2] at hu
   rcases List.mem_append.1 hu with hu | hu
   ·exact k3 u hu
   ·exact m4 u hu
theorem OS (h : IH P e p f) : ∀ {l : List α}, (∀ y ∈ l, p y) → (l.flatMap f).length = l.length * P.cellsOf e
 | [], _ => by simp
 | y :: l, hl => by
  have := h.len y (hl y (by simp))
  rw [List.flatMap_cons, List.length_append, OS h fun z hz => hl z (by simp [hz]), this, List.length_cons, Nat.add_mul]; omega
theorem IH.array {n : Nat} (h : IH P e p f) (ht : P.underlying t = some (.array n e)) (hs : P.cellsOf t = n * P.cellsOf e) : IH P t (fun l : List α => l.length = n ∧ ∀ y ∈ l, p y) (fun l => l.flatMap f) := ⟨fun y hy => by rw [OS h hy.2, hy.1, hs], fun hx => by
 obtain ⟨xs, m, _, _, hl, hlen, hf⟩ := DataW.trod_array ht hx
 obtain ⟨l, k1, k2, k3, k4⟩ := OR h n _ (hl.trans hs) fun i hi => ⟨xs[i]'(by omega), by rw [hf i hi, List.getElem?_eq_getElem]⟩
 exact ⟨l, ⟨k1, k2⟩, k3, k4⟩⟩
variable {H : Type} {enc : TypeId × Value → H} {w : World} {base b0 : Nat} {spare : Nat → Bool} {held : Bool} {r : Reach} {v : Value} {d : DataW H} {ps : List MemPlace}
theorem Wb {f : α → D} (h : IH P t p fun y => [f y]) (hn : v.cells.toList = [v]) (hx : DataW.Trod enc P w base spare held t v d ps) : ∃ y, p y ∧ ∀ B, drep B (fun _ => True) w (f y) v := by
 obtain ⟨fuel, hx⟩ := hx
 rw [hn] at hx
 obtain ⟨y, k1, k2, _⟩ := h.h hx
 refine ⟨y, k1, fun B => ?_⟩
 have := k2 B
 simp only [dreps] at this
 obtain ⟨u, us, e, h1, _⟩ := this
 cases e; exact h1
end

structure St where
 tm : List (Nat × V)
 st : List E
 nb : Nat
structure Cx where
 N : Nat
 rd : Option Nat
 B : Nat
 m : Nat
 M : Option Nat
 df : List (FuncId × List V)
def Cx.sp (cx : Cx) : Prop := cx.M = some cx.B
def Mr (B : Nat) (g : G) (w : World) : List (FuncId × List V) → List Deferred → Prop
 | [], ds => ds = []
 | (f, vs) :: df, ds => ∃ us r, ds = { target := .fn (.func f) us.toArray, args := #[] } :: r ∧ vreps B g w vs us ∧ Mr B g w df r
def L0 (cx : Cx) (g : G) (w : World) (ds : List Deferred) : Prop := (∀ m, cx.M = some m → m ≤ w.heap.size) ∧ ∃ (bs : List Nat) (r : List Deferred), ds = bs.map (fun b => { target := .collected b, args := #[] }) ++ r ∧ bs.Nodup ∧ (∀ b ∈ bs, g.prot b ∧ (∃ m, cx.M = some m ∧ m ≤ b) ∧ w.heap[b]? = some (.deferred (some []))) ∧ Mr cx.B g w cx.df r
structure Dg (cx : Cx) (g : G) (a : Act) (w : World) (s : St) : Prop where
 size : a.tmps.size = cx.N
 tm : ∀ {t v}, AA t s.tm = some v → vrep cx.B g w v (a.tmps.getD t undef)
 st : AC cx.B g w s.st
 inv : CG cx.B s.nb g w
 defers : L0 cx g w a.defers
inductive VE where
 | normal
 | exit (id : Nat)
 | goto (l : Nat)
 | ret
 | panic (v : V)
def BV (B : Nat) (g : G) (w : World) : VE → Exit → Prop
 | .normal, e => e = .normal
 | .exit id, e => e = .exit id
 | .goto l, e => e = .goto l
 | .ret, e => e = .ret
 | .panic v, e => ∃ u, e = .panic [{ v := u, recovered := false }] ∧ vrep B g w v u
def EY (cx : Cx) (g : G) (w : World) (Q : VE → St → Prop) (e : Exit) (a' : Act) (w' : World) : Prop :=
 ∃ g' s' e', Ei cx.sp cx.m g w g' w' ∧ Dg cx g' a' w' s' ∧ BV cx.B g' w' e' e ∧ Q e' s'
def FW (rd : Option Nat) : Fence := { fn := fun _ => True, depth := none, alive := false, round := rd }
theorem Bh (P : Program) (rd : Option Nat) (m : Machine) : m.fenced P (FW rd) := by
 intro g _
 refine ⟨fun h => ?_, Or.inl trivial, fun _ _ => trivial, fun _ h => ?_⟩
 ·simp [FW] at h
 ·simp [FW] at h
def VW (P : Program) (cx : Cx) (c : Code) (s : St) (Q : VE → St → Prop) : Prop :=
 ∀ n g0 w0 g a w, Ei cx.sp cx.m g0 w0 g w → Dg cx g a w s → c.wpIn (FW cx.rd) n P (EY cx g0 w0 Q) a w
def KJ (f0 : FuncId) (F : Fence) (n : Nat) (P : Program) (c : Code) (Q : Exit → Act → World → Prop) (a : Act) (w : World) : Prop :=
 ∀ (b : Frame) (k : List Item) (cs : List Frame), b.roundOf = F.round → F.fn b.fn → b.fn = f0 → F.room (cs.length + 1 + n) →
  ∃ e a' w', Q e a' w' ∧ ArrivesIn (Machine.fenced P F) P (lone (b.atR a (.code c :: k)) cs w) b k cs e a' w'
theorem Wo {f0 : FuncId} {F : Fence} {n : Nat} {P : Program} {c : Code} {Q : Exit → Act → World → Prop} {a : Act} {w : World} (h : c.wpIn F n P Q a w) : KJ f0 F n P c Q a w := fun b k cs h1 h2 _ h3 => h b k cs h1 h2 h3
theorem HH {f0 : FuncId} {F : Fence} {n : Nat} {P : Program} {c : Code} {Q Q' : Exit → Act → World → Prop} {a : Act} {w : World} (h : KJ f0 F n P c Q a w) (hq : ∀ e a w, Q e a w → Q' e a w) : KJ f0 F n P c Q' a w :=
 fun b k cs hro hb h0 hr => let ⟨e, a', w', q, r⟩ := h b k cs hro hb h0 hr; ⟨e, a', w', hq _ _ _ q, r⟩
def SO (P : Program) (f0 : FuncId) (cx : Cx) (c : Code) (s : St) (Q : VE → St → Prop) : Prop :=
 ∀ n g0 w0 g a w, Ei cx.sp cx.m g0 w0 g w → Dg cx g a w s → KJ f0 (FW cx.rd) n P c (EY cx g0 w0 Q) a w
theorem FY {P : Program} {f0 : FuncId} {cx : Cx} {c : Code} {s : St} {Q : VE → St → Prop} (h : VW P cx c s Q) : SO P f0 cx c s Q := fun n g0 w0 g a w hE hS => Wo (h n g0 w0 g a w hE hS)
def BH (F : Fence) (n : Nat) (P : Program) (ops : Array Oper) (Q : Exit → Act → World → Prop) : List Oper → Act → World → Prop
 | [], a, w => Q .normal a w
 | o :: rest, a, w =>
  if Region.wanted o (yielded ops a.tmps) then o.wpIn F n P a w (BH F n P ops Q rest) Q
  else (∀ f, o.about P w a.eval = some f → F.fn f) ∧ BH F n P ops Q rest (a.put o.dst undef) w
theorem KH {F : Fence} {n : Nat} {P : Program} {ops : Array Oper} {Q : Exit → Act → World → Prop} : ∀ (l : List Nat) (os : List Oper), l.map (ops[·]?) = os.map some →
  wpOpsIn F n P ops Q l = BH F n P ops Q os
 | [], [], _ => rfl
 | [], _ :: _, h => by simp at h
 | _ :: _, [], h => by simp at h
 | i :: l, o :: os, h => by
  simp only [List.map_cons, List.cons.injEq] at h
  have ih := KH (F := F) (n := n) (P := P) (Q := Q) l os h.2
  funext a w
  simp only [wpOpsIn, BH, h.1, ih]
theorem If {F : Fence} {n : Nat} {P : Program} {id : Nat} {l : List Oper} {Q : Exit → Act → World → Prop} {a : Act} {w : World} (h : BH F n P l.toArray Q l a w) : (Code.region id l.toArray false).wpIn F n P Q a w := by
 refine wpIn_region ?_
 rw [KH (List.range l.toArray.size) l]
 ·exact h
 ·apply List.ext_getElem
  ·simp
  ·intro i h1 h2
   simp at h1
   simp [h1]
def VL (P : Program) (cx : Cx) (ops : List Oper) (rest : List Oper) (s : St) (Q : VE → St → Prop) : Prop :=
 ∀ n g0 w0 g a w, Ei cx.sp cx.m g0 w0 g w → Dg cx g a w s → BH (FW cx.rd) n P ops.toArray (EY cx g0 w0 Q) rest a w
section
variable {P : Program} {cx : Cx} {s : St} {Q : VE → St → Prop}
theorem VW.mono {c : Code} {Q' : VE → St → Prop} (h : VW P cx c s Q) (hq : ∀ e s, Q e s → Q' e s) : VW P cx c s Q' := fun n g0 w0 g a w hE hS =>
 wpIn_mono (h n g0 w0 g a w hE hS) fun _ _ _ ⟨g', s', e', k1, k2, k3, k4⟩ => ⟨g', s', e', k1, k2, k3, hq _ _ k4⟩
theorem Wp (h : Q .normal s) : VW P cx .skip s Q := fun _ _ _ g _ _ hE hS => wpIn_skip ⟨g, s, .normal, hE, hS, rfl, h⟩
theorem SU {l : Nat} (h : Q .normal s) : VW P cx (.label l) s Q := fun _ _ _ g _ _ hE hS => wpIn_label ⟨g, s, .normal, hE, hS, rfl, h⟩
theorem Wr {id : Nat} (h : Q (.exit id) s) : VW P cx (.exit id) s Q := fun _ _ _ g _ _ hE hS => wpIn_exit ⟨g, s, .exit id, hE, hS, rfl, h⟩
theorem Y8 (h : Q .ret s) : VW P cx .ret s Q := fun _ _ _ g _ _ hE hS => wpIn_ret ⟨g, s, .ret, hE, hS, rfl, h⟩
def KR (P : Program) (cx : Cx) (c : Code) (Q : VE → St → Prop) : VE → St → Prop
 | .normal, s => VW P cx c s Q
 | e, s => Q e s
theorem AS {x y : Code} (h : VW P cx x s (KR P cx y Q)) : VW P cx (.seq x y) s Q := fun n g0 w0 g a w hE hS => by
 refine wpIn_seq (wpIn_mono (h n g0 w0 g a w hE hS) ?_)
 rintro e a' w' ⟨g', s', e', k1, k2, k3, k4⟩
 cases e' with
 | normal => simp only [BV] at k3; subst k3; exact k4 n g0 w0 g' a' w' k1 k2
 | exit id => simp only [BV] at k3; subst k3; exact ⟨g', s', .exit id, k1, k2, rfl, k4⟩
 | goto id => simp only [BV] at k3; subst k3; exact ⟨g', s', .goto id, k1, k2, rfl, k4⟩
 | ret => simp only [BV] at k3; subst k3; exact ⟨g', s', .ret, k1, k2, rfl, k4⟩
 | panic v => obtain ⟨u, rfl, k⟩ := k3; exact ⟨g', s', .panic v, k1, k2, ⟨u, rfl, k⟩, k4⟩
def DT (id : Nat) (Q : VE → St → Prop) : VE → St → Prop
 | .exit i, s => match Nat.beq i id with
  | true => Q .normal s
  | false => Q (.exit i) s
 | e, s => Q e s
theorem SZ {id : Nat} {x : Code} (h : VW P cx x s (DT id Q)) : VW P cx (.block id x) s Q := fun n g0 w0 g a w hE hS => by
 refine wpIn_block (wpIn_mono (h n g0 w0 g a w hE hS) ?_)
 rintro e a' w' ⟨g', s', e', k1, k2, k3, k4⟩
 cases e' with
 | normal => simp only [BV] at k3; subst k3; exact ⟨g', s', .normal, k1, k2, rfl, k4⟩
 | exit i =>
  simp only [BV] at k3; subst k3
  simp only [DT] at k4
  simp only [Exit.inBlock]
  by_cases h : i = id
  ·subst h
   rw [if_pos rfl]
   rw [show Nat.beq i i = true from Nat.beq_refl i] at k4
   exact ⟨g', s', .normal, k1, k2, rfl, k4⟩
  ·rw [if_neg h]
   rw [show Nat.beq i id = false from by
    cases hb : Nat.beq i id
    ·rfl
    ·exact (h (Nat.eq_of_beq_eq_true hb)).elim] at k4
   exact ⟨g', s', .exit i, k1, k2, rfl, k4⟩
 | goto id => simp only [BV] at k3; subst k3; exact ⟨g', s', .goto id, k1, k2, rfl, k4⟩
 | ret => simp only [BV] at k3; subst k3; exact ⟨g', s', .ret, k1, k2, rfl, k4⟩
 | panic v => obtain ⟨u, rfl, k⟩ := k3; exact ⟨g', s', .panic v, k1, k2, ⟨u, rfl, k⟩, k4⟩
def Aak : V → Option V
 | .d (.pt l) => some (.ep l)
 | v => some v
theorem Vg {B : Nat} {g : G} {w : World} {v v' : V} (h : Aak v = some v') {u : Value} (hu : vrep B g w v u) : vrep B g w v' u := by
 unfold Aak at h
 split at h <;> cases h
 ·simp only [vrep, drep] at hu ⊢
  obtain ⟨b, o, cs, e, k1, k2⟩ := hu
  exact ⟨b, o, cs, e, k1.imp fun b hb => hb.1, k2⟩
 ·exact hu
def Af (s : St) : Operand → Option V
 | .tmp t => (match AA t s.tm with
  | some v => Aak v
  | none => none)
 | .const v => match v with
  | .agg cs => some (.d (.agg (cs.toList.map .lit)))
  | v => some (.d (.lit v))
 | .func f => some (.fn (.func f) [] [])
 | .global _ => none
theorem H4 {B : Nat} {U : Nat → Prop} {w : World} : ∀ {cs : List Value}, dreps B U w (cs.map .lit) cs
 | [] => by simp [dreps]
 | x :: xs => by simp only [List.map_cons, dreps]; exact ⟨x, xs, rfl, (by simp only [drep]), H4⟩
theorem Dg.eval {g : G} {a : Act} {w : World} (h : Dg cx g a w s) {x : Operand} {v : V} (hv : Af s x = some v) : vrep cx.B g w v (a.eval x) := by
 cases x with
 | tmp t =>
  simp only [Af] at hv
  split at hv
  ·rename_i v0 h0; exact Vg hv (h.tm h0)
  ·cases hv
 | const c =>
  simp only [Af] at hv
  simp only [Act.eval]
  split at hv
  ·cases hv; simp only [vrep, drep]; exact ⟨_, by simp, H4⟩
  ·cases hv; simp only [vrep, drep]
 | global g => simp [Af] at hv
 | func f => simp only [Af, Option.some.injEq] at hv; subst hv; simp only [vrep, vreps, Act.eval]; exact ⟨[], [], rfl, rfl, rfl⟩
theorem Kk {c : Operand} {x y : Code} {b : Bool} (hc : Af s c = some (.d (.lit (.bool b)))) (ht : b = true → VW P cx x s Q) (hf : b = false → VW P cx y s Q) : VW P cx (.cond c x y) s Q := fun n g0 w0 g a w hE hS => by
 have h := hS.eval hc
 simp only [vrep, drep] at h
 cases b with
 | true => exact wpIn_cond_true h (ht rfl n g0 w0 g a w hE hS)
 | false => exact wpIn_cond_false h (hf rfl n g0 w0 g a w hE hS)
theorem SW {c : Operand} {x y : Code} {p : Prop} [Decidable p] (hc : Af s c = some (.d (.lit (.bool (decide p))))) (ht : p → VW P cx x s Q) (hf : ¬ p → VW P cx y s Q) : VW P cx (.cond c x y) s Q :=
 Kk hc (fun h => ht (of_decide_eq_true h)) (fun h => hf (of_decide_eq_false h))
theorem RW {id : Nat} {l : List Oper} (h : VL P cx l l s Q) : VW P cx (.region id l.toArray false) s Q := fun n g0 w0 g a w hE hS => If (h n g0 w0 g a w hE hS)
theorem PA {ops : List Oper} (h : Q .normal s) : VL P cx ops [] s Q := fun _ _ _ g _ _ hE hS => ⟨g, s, .normal, hE, hS, rfl, h⟩
end

def Mo : TypeDesc → Bool
 | .struct _ | .array _ _ => true
 | _ => false
def Ace (P : Program) (f : Nat) : TypeDesc → Option (Nat × Nat × Option Bool)
 | .struct fs => (fs[f]?).map fun x => (x.offset, P.cellsOf x.type, (P.underlying x.type).map Mo)
 | _ => none
def AcD : TypeDesc → Option (Nat × TypeId)
 | .array n e => some (n, e)
 | _ => none
class BE (P : Program) (t : TypeId) (ag : outParam Bool) (sz : outParam Nat) (z : outParam (List Value)) : Prop where
 tag : (P.underlying t).map Mo = some ag
 tsz : (P.info? t).map (fun i => (i.size, i.zero.map (·.cells.toList))) = some (sz, some z)
class Bj (P : Program) (s f : Nat) (off sz : outParam Nat) (ag : outParam Bool) : Prop where
 at_ : (P.underlying s).bind (Ace P f) = some (off, sz, some ag)
 pos : 0 < sz
class EP (P : Program) (t : TypeId) (n : outParam Nat) (e : outParam TypeId) (sz : outParam Nat) : Prop where
 und : (P.underlying t).bind AcD = some (n, e)
 esz : (P.info? e).map (·.size) = some sz
 pos : 0 < sz
class EQ (P : Program) (t : TypeId) (e : outParam TypeId) (sz bytes : outParam Nat) : Prop where
 elem : G4 P t e sz bytes
def Vy : TypeDesc → Bool
 | .interface _ => true
 | _ => false
class Qu (P : Program) (t : TypeId) : Prop where
 und : (P.underlying t).map Vy = some false
class Mq (P : Program) (t : TypeId) : Prop where
 und : (P.underlying t).map Vy = some true
def AbQ : TypeDesc → Bool
 | .pointer _ => true
 | _ => false
class Mp (P : Program) (t : TypeId) : Prop where
 und : (P.underlying t).map AbQ = some true
class Y6 (P : Program) (t : TypeId) : Prop where
 und : P.underlying t = some .bool
class Jn (P : Program) (t : TypeId) (k : outParam IntKind) : Prop where
 und : P.underlying t = some (.int k)
class Ady (P : Program) (t : TypeId) : Prop where
 und : P.underlying t = some .string
theorem BE.size {P : Program} {t : TypeId} {ag : Bool} {sz : Nat} {z : List Value} (h : BE P t ag sz z) : ∃ i zv, P.info? t = some i ∧ i.size = sz ∧ i.zero = some zv ∧ zv.cells.toList = z := by
 obtain ⟨i, h1, h2⟩ := Option.map_eq_some_iff.1 h.tsz
 simp only [Prod.mk.injEq] at h2
 obtain ⟨zv, h3, h4⟩ := Option.map_eq_some_iff.1 h2.2
 exact ⟨i, zv, h1, h2.1, h3, h4⟩
theorem BE.und {P : Program} {t : TypeId} {ag : Bool} {sz : Nat} {z : List Value} (h : BE P t ag sz z) : ∃ d, P.underlying t = some d ∧ Mo d = ag := Option.map_eq_some_iff.1 h.tag
theorem Bj.get {P : Program} {s f off sz : Nat} {ag : Bool} (h : Bj P s f off sz ag) : ∃ fs x i, P.underlying s = some (.struct fs) ∧ fs[f]? = some x ∧ x.offset = off ∧ P.info? x.type = some i ∧ i.size = sz ∧ (P.underlying x.type).map Mo = some ag := by
 obtain ⟨d, h1, h2⟩ := Option.bind_eq_some_iff.1 h.at_
 unfold Ace at h2
 split at h2
 ·rename_i fs
  obtain ⟨x, h3, h4⟩ := Option.map_eq_some_iff.1 h2
  simp only [Prod.mk.injEq] at h4
  have h5 := h.pos
  have h6 := h4.2.1
  unfold Program.cellsOf at h6
  cases hi : P.info? x.type with
  | none => rw [hi] at h6; simp at h6; omega
  | some i => rw [hi] at h6; exact ⟨fs, x, i, h1, h3, h4.1, hi, by simpa using h6, h4.2.2⟩
 ·cases h2
theorem EP.get {P : Program} {t n : Nat} {e : TypeId} {sz : Nat} (h : EP P t n e sz) : P.underlying t = some (.array n e) ∧ ∃ i, P.info? e = some i ∧ i.size = sz := by
 obtain ⟨d, h1, h2⟩ := Option.bind_eq_some_iff.1 h.und
 refine ⟨?_, Option.map_eq_some_iff.1 h.esz⟩
 unfold AcD at h2
 split at h2
 ·cases h2; exact h1
 ·cases h2

end Go.Proofs.YtbgcjnfhadhjeaaGreat