/- A region that draws its order and holds several things at once that make memory (calls, new variables, new rows): each is shown once, for whatever has been done ahead of it; what each has made is its own. -/
import Derived.Test.YtpooakhmpfbmgaaPlus
import Derived.Test.YtpooakhmpfbmgaaCanon
namespace Go.Proofs.Ytpooakhmpfbmgaa
open Go.RowKit

section
variable {P : Program} {ops : Array Oper} {Q : Exit → Act → World → Prop} {n : Nat}

/-! ### the frame: what has been done has its value in its slot -/
structure Fr (n : Nat) (ops : Array Oper) (on : Nat → Bool) (vs : Nat → Value) (a0 a : Act) : Prop where
  defers : a.defers = a0.defers
  size : a.tmps.size = a0.tmps.size
  got : ∀ i o d, i < n → on i = true → ops[i]? = some o → o.dst = some d → d < a0.tmps.size → a.tmps[d]? = some (vs i)
  old : ∀ k, (∀ i o, i < n → on i = true → ops[i]? = some o → o.dst ≠ some k) → a.tmps[k]? = a0.tmps[k]?

theorem Fr.start (on : Nat → Bool) (hon : ∀ i, i < n → on i = false) (vs : Nat → Value) (a0 : Act) : Fr n ops on vs a0 a0 :=
  ⟨rfl, rfl, fun i o d hi h => (by rw [hon i hi] at h; cases h), fun _ _ => rfl⟩

/-- no two of the first n operations yield into one slot -/
def dstsB (ops : Array Oper) (n : Nat) : Bool := decide (((List.range n).filterMap fun i => (ops[i]?).bind (·.dst)).Nodup)

theorem dsts_ne (hd : dstsB ops n = true) {i j : Nat} {o o' : Oper} {d : Tmp} (hi : i < n) (hj : j < n) (ho : ops[i]? = some o) (ho' : ops[j]? = some o') (h1 : o.dst = some d) (h2 : o'.dst = some d) : i = j := by
  have hN := of_decide_eq_true hd
  have key : ∀ m, ((List.range m).filterMap fun i => (ops[i]?).bind (·.dst)).Nodup → ∀ i j, i < j → j < m → (ops[i]?).bind (·.dst) = some d → (ops[j]?).bind (·.dst) = some d → False := by
    intro m
    induction m with
    | zero => intro _ i j _ h; omega
    | succ m ih =>
      intro hm i j hij hj h1 h2
      rw [List.range_succ, List.filterMap_append, List.nodup_append] at hm
      by_cases e : j = m
      · subst e
        refine hm.2.2 d (List.mem_filterMap.2 ⟨i, by simp; omega, h1⟩) d (List.mem_filterMap.2 ⟨j, by simp, h2⟩) rfl
      · exact ih hm.1 i j hij (by omega) h1 h2
  have e1 : (ops[i]?).bind (·.dst) = some d := by rw [ho]; exact h1
  have e2 : (ops[j]?).bind (·.dst) = some d := by rw [ho']; exact h2
  rcases Nat.lt_trichotomy i j with h | h | h
  · exact (key n hN i j h hj e1 e2).elim
  · exact h
  · exact (key n hN j i h hi e2 e1).elim

theorem Fr.put {on : Nat → Bool} {vs : Nat → Value} {a0 a : Act} (h : Fr n ops on vs a0 a) (hd : dstsB ops n = true) {i : Nat} {o : Oper} (hi : i < n) (ho : ops[i]? = some o) (hoff : on i = false) (v : Value)
    (on' : Nat → Bool) (hon' : ∀ j, j < n → on' j = (on j || decide (j = i))) : Fr n ops on' (fun j => if j = i then v else vs j) a0 (a.put o.dst v) := by
  have hs : (a.put o.dst v).tmps.size = a0.tmps.size := by
    unfold Act.put
    split
    · simpa using h.size
    · exact h.size
  refine ⟨?_, hs, ?_, ?_⟩
  · unfold Act.put
    split
    · exact h.defers
    · exact h.defers
  · intro j o' d hj hj' ho' hdd hlt
    rw [hon' j hj] at hj'
    by_cases e : j = i
    · subst e
      rw [ho] at ho'
      cases ho'
      simp only [if_true]
      unfold Act.put
      rw [hdd]
      simp only
      rw [Array.getElem?_setIfInBounds_self_of_lt (by rw [h.size]; exact hlt)]
    · simp only [if_neg e]
      have hj2 : on j = true := by simpa [e] using hj'
      have hne : o.dst ≠ some d := fun h1 => e (dsts_ne hd hj hi ho' ho hdd h1)
      unfold Act.put
      split
      · rename_i d' hd'
        have : d' ≠ d := fun h2 => hne (by rw [hd', h2])
        simp only
        rw [Array.getElem?_setIfInBounds_ne this]
        exact h.got j o' d hj hj2 ho' hdd hlt
      · exact h.got j o' d hj hj2 ho' hdd hlt
  · intro k hk
    have hne : o.dst ≠ some k := hk i o hi (by rw [hon' i hi]; simp) ho
    have hold := h.old k (fun j o' hj hj' ho' => hk j o' hj (by rw [hon' j hj, hj']; rfl) ho')
    unfold Act.put
    split
    · rename_i d' hd'
      have : d' ≠ k := fun h2 => hne (by rw [hd', h2])
      simp only
      rw [Array.getElem?_setIfInBounds_ne this]
      exact hold
    · exact hold

theorem Fr.unique {on on' : Nat → Bool} {vs vs' : Nat → Value} {a0 a b : Act} (h : Fr n ops on vs a0 a) (k : Fr n ops on' vs' a0 b) (hon : ∀ i, i < n → on i = on' i) (hvs : ∀ i, i < n → on i = true → vs i = vs' i) : a = b := by
  obtain ⟨t, d⟩ := a
  obtain ⟨t', d'⟩ := b
  have e1 : d = d' := h.defers.trans k.defers.symm
  subst e1
  congr 1
  apply Array.ext_getElem?
  intro m
  by_cases hm : ∃ i o, i < n ∧ on i = true ∧ ops[i]? = some o ∧ o.dst = some m
  · obtain ⟨i, o, hi, hon1, ho, hdst⟩ := hm
    by_cases hlt : m < a0.tmps.size
    · have r1 := h.got i o m hi hon1 ho hdst hlt
      have r2 := k.got i o m hi (by rw [← hon i hi]; exact hon1) ho hdst hlt
      simp only at r1 r2
      rw [r1, r2, hvs i hi hon1]
    · have s1 := h.size
      have s2 := k.size
      simp only at s1 s2
      rw [Array.getElem?_eq_none (by omega), Array.getElem?_eq_none (by omega)]
  · have r1 := h.old m (fun i o hi h1 ho hdst => hm ⟨i, o, hi, h1, ho, hdst⟩)
    have r2 := k.old m (fun i o hi h1 ho hdst => hm ⟨i, o, hi, by rw [hon i hi]; exact h1, ho, hdst⟩)
    simp only at r1 r2
    rw [r1, r2]

theorem Fr.tmp {on : Nat → Bool} {vs : Nat → Value} {a0 a : Act} (h : Fr n ops on vs a0 a) (i : Nat) {o : Oper} {d : Tmp} (hi : i < n) (hon : on i = true) (ho : ops[i]? = some o) (hd : o.dst = some d) (hs : Nat.blt d a0.tmps.size = true) : a.eval (.tmp d) = vs i := by
  have := h.got i o d hi hon ho hd (by simpa [Nat.blt_eq] using hs)
  simp [Act.eval, Array.getD_eq_getD_getElem?, this]
theorem Fr.tmp0 {on : Nat → Bool} {vs : Nat → Value} {a0 a : Act} (h : Fr n ops on vs a0 a) (k : Tmp) (hk : ((List.range n).all fun i => decide ((ops[i]?).bind (·.dst) ≠ some k)) = true) : a.eval (.tmp k) = a0.eval (.tmp k) := by
  have := h.old k (fun i o hi _ ho hd => by
    have := List.all_eq_true.1 hk i (by simpa using hi)
    simp [ho, hd] at this)
  simp [Act.eval, Array.getD_eq_getD_getElem?, this]

/-! ### the law -/
/-- j waits for i -/
def waitB (ops : Array Oper) (j i : Nat) : Bool := ((ops[j]?).map fun o => o.after.any fun e => Region.binds .any e && e.on == i).getD false
/-- the operations that wait for none but what stands ahead of them, and bear no guard -/
def predB (ops : Array Oper) (n : Nat) : Bool := (List.range n).all fun i => ((ops[i]?).map fun o => o.guard.isNone && o.after.all fun e => !Region.binds .any e || decide (e.on < i)).getD false
/-- those that are taken first disturb no other -/
def quietB (ops : Array Oper) (n : Nat) (qb : List Bool) : Bool := (List.range n).all fun i => !qb.getD i false || (List.range ops.size).all fun j => decide (j = i) || waitB ops j i || waitB ops i j ||
  (match ops[i]?, ops[j]? with | some x, some y => x.apart ops y | _, _ => true)
/-- what operation n waits for, through others too -/
def covB (ops : Array Oper) (n : Nat) : List Nat → List Nat → List Nat
  | [], c => c
  | k :: r, c => covB ops n r (if waitB ops n k || c.any (fun m => waitB ops m k) then k :: c else c)
/-- the tail waits for all but those that are taken first -/
def tailB (ops : Array Oper) (n : Nat) (qb : List Bool) : Bool := decide (n = ops.size) || (decide (n < ops.size) && ((List.range n).all fun i => qb.getD i false || (covB ops n (List.range n).reverse []).contains i) && ((List.range ops.size).all fun t => decide (t ≤ n) || waitB ops t (t - 1)))
/-- what an operation waits for -/
def predsR (ops : Array Oper) (i : Nat) : List Nat := ((ops[i]?).map fun o => o.after.toList.filterMap fun e => if Region.binds .any e then some e.on else none).getD []

/-- none writes to what i has made -/
def freshB (n : Nat) (wr : Nat → List Nat) (i : Nat) : Bool := (List.range n).all fun k => !(wr k).contains i

structure RG (n : Nat) (w0 : World) (wr : Nat → List Nat) (Φ : Nat → Value → World → Nat → Nat → Prop) (on : Nat → Bool) (w : World) (vs : Nat → Value) (lo hi : Nat → Nat) : Prop where
  bel : Below w0.heap.size w0 w
  bnd : ∀ i, i < n → on i = true → w0.heap.size ≤ lo i ∧ lo i ≤ hi i ∧ hi i ≤ w.heap.size
  dyn : ∀ i, i < n → on i = true → (∀ k, k < n → on k = true → i ∉ wr k) → Φ i (vs i) w (lo i) (hi i)
  apart : ∀ i j, i < n → j < n → on i = true → on j = true → i ≠ j → hi i ≤ lo j ∨ hi j ≤ lo i
theorem RG.fact {w0 w : World} {wr : Nat → List Nat} {Φ : Nat → Value → World → Nat → Nat → Prop} {on : Nat → Bool} {vs : Nat → Value} {lo hi : Nat → Nat} (h : RG n w0 wr Φ on w vs lo hi) (i : Nat) (hi_ : Nat.blt i n = true) (hon : on i = true) (hf : freshB n wr i = true) : Φ i (vs i) w (lo i) (hi i) :=
  h.dyn i (by simpa [Nat.blt_eq] using hi_) hon fun k hk _ hm => by
    have := List.all_eq_true.1 hf k (by simpa using hk)
    simp at this
    exact this hm

/-- nothing that is there has turned but the blocks of S -/
structure KBut (S : Nat → Prop) (w w' : World) : Prop where
  os : w'.os = w.os
  tape : w'.tape = w.tape
  output : w'.output = w.output
  size : w.heap.size ≤ w'.heap.size
  block : ∀ k, k < w.heap.size → ¬ S k → w'.heap[k]? = w.heap[k]?
theorem KBut.of_below {w w' : World} {S : Nat → Prop} (h : Below w.heap.size w w') : KBut S w w' := ⟨h.os, h.tape, h.output, h.size, fun k hk _ => h.block k hk⟩
theorem KBut.of_grown {w w' : World} {row : Option Nat} {S : Nat → Prop} (h : w.grownBy w' row) (hS : ∀ k, row = some k → S k) : KBut S w w' := ⟨h.os, h.tape, h.output, h.size, fun k hk hn => h.block k hk (fun e => hn (hS k e.symm))⟩
theorem KBut.mono {w w' : World} {S S' : Nat → Prop} (h : KBut S w w') (hS : ∀ k, S k → S' k) : KBut S' w w' := ⟨h.os, h.tape, h.output, h.size, fun k hk hn => h.block k hk (fun e => hn (hS k e))⟩
theorem KBut.below {w w' : World} {S : Nat → Prop} {B : Nat} (h : KBut S w w') (hB : B ≤ w.heap.size) (hS : ∀ k, S k → B ≤ k) : Below B w w' := ⟨h.os, h.tape, h.output, h.size, fun k hk => h.block k (by omega) (fun e => by have := hS k e; omega)⟩

/-- what an operation leaves: its value, what it has made, and, of what others have made, only what it may write to -/
abbrev RGpost (W : World) (a : Act) (dst : Option Tmp) (S : Nat → Prop) (Ψ : Value → World → Nat → Nat → Prop) (a' : Act) (W' : World) : Prop := ∃ v, a' = a.put dst v ∧ KBut S W W' ∧ Ψ v W' W.heap.size W'.heap.size
/-- what j's blocks are, for j of these -/
def ofB (wr : List Nat) (lo hi : Nat → Nat) (k : Nat) : Prop := ∃ j, j ∈ wr ∧ lo j ≤ k ∧ k < hi j

/-- what is to be shown of one operation (q: it is taken first) -/
def RGop (P : Program) (ops : Array Oper) (Q : Exit → Act → World → Prop) (n : Nat) (w0 : World) (a0 : Act) (wr : Nat → List Nat) (Φ : Nat → Value → World → Nat → Nat → Prop) (wi : List Nat) (q : Bool) (i : Nat) (o : Oper) : Prop :=
  ∀ (on : Nat → Bool) (a : Act) (W : World) (vs : Nat → Value) (lo hi : Nat → Nat), on i = false → RG n w0 wr Φ on W vs lo hi → Fr n ops on vs a0 a → (∀ j, j ∈ predsR ops i → on j = true) →
    (q = true → ∃ v, (∀ w, (execOp a.eval o).run P w = .ok (.value v) w) ∧ Φ i v W W.heap.size W.heap.size) ∧ (q = false → o.wp P a W (RGpost W a o.dst (ofB wi lo hi) (Φ i)) Q)

theorem waitB_spec {j i : Nat} (h : waitB ops j i = true) : ∃ oj, ops[j]? = some oj ∧ ∃ e ∈ oj.after, Region.binds .any e = true ∧ e.on = i := by
  unfold waitB at h
  cases ho : ops[j]? with
  | none => rw [ho] at h; simp at h
  | some o =>
    rw [ho] at h
    simp only [Option.map_some, Option.getD_some] at h
    obtain ⟨e, he, hb⟩ := Array.any_eq_true'.1 h
    simp only [Bool.and_eq_true, beq_iff_eq] at hb
    exact ⟨o, rfl, e, he, hb.1, hb.2⟩

theorem covB_listed {listed : Array Bool} {k n : Nat} (inv : HeadInv .any ops n listed) (hall : ∀ i, waitB ops k i = true → listed.getD i false = true) : ∀ (r c : List Nat), (∀ m ∈ c, listed.getD m false = true) → ∀ m ∈ covB ops k r c, listed.getD m false = true
  | [], _, hc => hc
  | i :: r, c, hc => by
    refine covB_listed inv hall r _ ?_
    split
    · rename_i h
      intro m hm
      rcases List.mem_cons.1 hm with rfl | hm
      · simp only [Bool.or_eq_true, List.any_eq_true] at h
        rcases h with h | ⟨j, hj, h⟩
        · exact hall m h
        · obtain ⟨oj, hoj, e, he, hb, heq⟩ := waitB_spec h
          have := inv.closed j oj hoj (hc j hj) e he hb
          rwa [heq] at this
      · exact hc m hm
    · exact hc

/-- each of the facts (but those of top) speaks of the old memory, and of its own blocks; and all of what is there -/
structure RGst (n : Nat) (w0 : World) (top : List Nat) (Φ : Nat → Value → World → Nat → Nat → Prop) : Prop where
  own : ∀ i v w w' lo hi, i < n → i ∉ top → Φ i v w lo hi → w0.heap.size ≤ lo → hi ≤ w.heap.size → KBut (fun k => w0.heap.size ≤ k ∧ (k < lo ∨ hi ≤ k)) w w' → Φ i v w' lo hi
  all : ∀ i v w w' lo hi, i < n → Φ i v w lo hi → hi ≤ w.heap.size → Below w.heap.size w w' → Φ i v w' lo hi

theorem RG.step {w0 w w' : World} {wr : Nat → List Nat} {Φ : Nat → Value → World → Nat → Nat → Prop} {on on' : Nat → Bool} {vs : Nat → Value} {lo hi : Nat → Nat} {i : Nat} {v : Value} {top : List Nat} (hR : RG n w0 wr Φ on w vs lo hi)
    (hst : RGst n w0 top Φ) (hi_ : i < n) (hB : KBut (ofB (wr i) lo hi) w w') (hw : ∀ j, j ∈ wr i → j < n ∧ on j = true) (ht : ∀ j, j < n → on j = true → j ∈ top → wr i = []) (hΦ : Φ i v w' w.heap.size w'.heap.size) (hon' : ∀ j, j < n → on' j = (on j || decide (j = i))) :
    RG n w0 wr Φ on' w' (fun j => if j = i then v else vs j) (fun j => if j = i then w.heap.size else lo j) (fun j => if j = i then w'.heap.size else hi j) := by
  have hs0 := hR.bel.size
  have hs1 := hB.size
  have hold : ∀ k, ofB (wr i) lo hi k → w0.heap.size ≤ k := by
    rintro k ⟨j, hj, h1, h2⟩
    obtain ⟨q1, q2⟩ := hw j hj
    have := (hR.bnd j q1 q2).1
    omega
  have hmono : ∀ k, k < n → on k = true → on' k = true := fun k hk h => by rw [hon' k hk, h]; rfl
  have honi : on' i = true := by rw [hon' i hi_]; simp
  refine ⟨hR.bel.trans (hB.below hs0 hold), fun j hj h => ?_, fun j hj h hlive => ?_, fun j k hj hk h1 h2 hne => ?_⟩
  · rw [hon' j hj] at h
    by_cases e : j = i
    · subst e
      simp only [if_true]
      exact ⟨hs0, hs1, Nat.le_refl _⟩
    · simp only [if_neg e]
      obtain ⟨f2, f3, f4⟩ := hR.bnd j hj (by simpa [e] using h)
      exact ⟨f2, f3, by omega⟩
  · rw [hon' j hj] at h
    by_cases e : j = i
    · subst e
      simp only [if_true]
      exact hΦ
    · simp only [if_neg e]
      have hjon : on j = true := by simpa [e] using h
      obtain ⟨f2, f3, f4⟩ := hR.bnd j hj hjon
      have f1 := hR.dyn j hj hjon (fun k hk hk2 => hlive k hk (hmono k hk hk2))
      have hjw : j ∉ wr i := hlive i hi_ honi
      by_cases hjt : j ∈ top
      · have hnil := ht j hj hjon hjt
        rw [hnil] at hB
        exact hst.all j _ _ _ _ _ hj f1 f4 (hB.below (Nat.le_refl _) (fun k hk => by obtain ⟨m, hm, _⟩ := hk; cases hm))
      · refine hst.own j _ _ _ _ _ hj hjt f1 f2 f4 (hB.mono fun k hk => ⟨hold k hk, ?_⟩)
        obtain ⟨m, hm, h1, h2⟩ := hk
        obtain ⟨q1, q2⟩ := hw m hm
        have hne : j ≠ m := fun e => hjw (by rw [e]; exact hm)
        have := hR.apart j m hj q1 hjon q2 hne
        omega
  · rw [hon' j hj] at h1
    rw [hon' k hk] at h2
    by_cases e : j = i
    · subst e
      have e2 : k ≠ j := fun h => hne h.symm
      simp only [if_true, if_neg e2]
      obtain ⟨_, _, f4⟩ := hR.bnd k hk (by simpa [e2] using h2)
      exact .inr f4
    · by_cases e2 : k = i
      · subst e2
        simp only [if_true, if_neg e]
        obtain ⟨_, _, f4⟩ := hR.bnd j hj (by simpa [e] using h1)
        exact .inl f4
      · simp only [if_neg e, if_neg e2]
        exact hR.apart j k hj hk (by simpa [e] using h1) (by simpa [e2] using h2) hne

/-- what is written to has been waited for; what is taken first writes to nothing -/
def wrB (ops : Array Oper) (n : Nat) (qb : List Bool) (wr : Nat → List Nat) : Bool := (List.range n).all fun i => (!qb.getD i false || (wr i).isEmpty) && (wr i).all fun j => decide (j < n) && (predsR ops i).contains j

/-- those of top come behind all that write to what others have made -/
def topB (ops : Array Oper) (n : Nat) (wr : Nat → List Nat) (top : List Nat) : Bool := top.all fun i => (List.range n).all fun j => (wr j).isEmpty || (covB ops i (List.range i).reverse []).contains j || decide (j = i)

theorem least_of {p : Nat → Prop} (h : ∃ i, i < n ∧ p i) : ∃ i, i < n ∧ p i ∧ ∀ j, j < i → ¬ p j := by
  have key : ∀ m, (∃ i, i < m ∧ p i) → ∃ i, i < m ∧ p i ∧ ∀ j, j < i → ¬ p j := by
    intro m
    induction m with
    | zero => rintro ⟨i, h, _⟩; omega
    | succ m ih =>
      rintro ⟨i, h, hf⟩
      by_cases hb : ∃ j, j < m ∧ p j
      · obtain ⟨j, h1, h2, h3⟩ := ih hb
        exact ⟨j, by omega, h2, h3⟩
      · have e : i = m := by
          rcases Nat.lt_or_ge i m with h' | h'
          · exact (hb ⟨i, h', hf⟩).elim
          · omega
        subst e
        exact ⟨i, by omega, hf, fun j hj hx => hb ⟨j, hj, hx⟩⟩
  exact key n h

theorem any_of_rg (w0 : World) (a0 : Act) (qb : List Bool) (wr : Nat → List Nat) (top : List Nat) (Φ : Nat → Value → World → Nat → Nat → Prop) {g : Nat} (htop : topB ops n wr top = true) (hwr : wrB ops n qb wr = true) (hsel : Region.noSelect ops = true) (hd : dstsB ops n = true) (hp : predB ops n = true) (hq : quietB ops n qb = true) (ht : tailB ops n qb = true) (hn : n ≤ ops.size)
    (hQ : ∀ c a d v w, Q (.panic c) (a.put d v) w → Q (.panic c) a w)
    (hst : RGst n w0 top Φ)
    (hop : ∀ i o, i < n → ops[i]? = some o → RGop P ops Q n w0 a0 wr Φ (wr i) (qb.getD i false) i o)
    (hend : ∀ listed a W vs lo hi, HeadInv .any ops n listed → un listed n = 0 → RG n w0 wr Φ (fun _ => true) W vs lo hi → Fr n ops (fun _ => true) vs a0 a → wpAny P .any ops Q g listed a W) :
    ∀ (f : Nat) (listed : Array Bool) (a : Act) (w : World) (vs : Nat → Value) (lo hi_ : Nat → Nat), un listed n = f → HeadInv .any ops n listed →
      RG n w0 wr Φ (fun i => listed.getD i false) w vs lo hi_ → Fr n ops (fun i => listed.getD i false) vs a0 a → wpAny P .any ops Q (f + g) listed a w := by
  intro f
  induction f with
  | zero =>
    intro listed a w vs lo hi_ hu inv hR hF
    have hall := un_zero hu
    have hon : ∀ i, i < n → listed.getD i false = true := by
      intro i hi
      have h1 := hall i hi
      have hs : i < listed.size := by rw [inv.size]; omega
      simp [hs] at h1 ⊢; exact h1
    rw [Nat.zero_add]
    exact hend listed a w vs lo hi_ inv hu ⟨hR.bel, fun i hi _ => hR.bnd i hi (hon i hi), fun i hi _ hl => hR.dyn i hi (hon i hi) (fun k hk _ => hl k hk rfl), fun i j hi hj _ _ => hR.apart i j hi hj (hon i hi) (hon j hj)⟩
      ⟨hF.defers, hF.size, fun i o d hi _ => hF.got i o d hi (hon i hi), fun k hk => hF.old k (fun i o hi _ => hk i o hi rfl)⟩
  | succ f ih =>
    intro listed a w vs lo hi_ hu inv hR hF
    have hpre : ∀ i o, i ∈ Region.ready .any ops listed → ops[i]? = some o → ∀ j, j ∈ predsR ops i → listed.getD j false = true := by
      intro i o hi ho j hj
      obtain ⟨_, o', ho', hall⟩ := mem_ready.1 hi
      unfold predsR at hj
      rw [ho'] at hj
      simp only [Option.map_some, Option.getD_some, List.mem_filterMap] at hj
      obtain ⟨e, he, h2⟩ := hj
      split at h2
      · rename_i hb
        cases h2
        exact hall e (by simpa using he) hb
      · cases h2
    have hon' : ∀ i, listed.getD i true = false → ∀ j, j < n → (listed.setIfInBounds i true).getD j false = (listed.getD j false || decide (j = i)) := by
      intro i hun j _
      have hst1 : i < listed.size := (by
        rcases Nat.lt_or_ge i listed.size with h | h
        · exact h
        · simp [Array.getElem?_eq_none h] at hun)
      by_cases e : j = i
      · subst e
        simp [hst1]
      · rw [getD_set_ne false (fun h => e h.symm)]
        simp [e]
    have hguard : ∀ i o, i < n → ops[i]? = some o → Region.wanted o (yielded ops a.tmps) = true := by
      intro i o hi ho
      have hg' := List.all_eq_true.1 hp i (by simpa using hi)
      rw [ho] at hg'
      simp at hg'
      unfold Region.wanted; rw [hg'.1]
    rw [show f + 1 + g = (f + g) + 1 from by omega]
    by_cases hqr : ∃ i, i ∈ Region.ready .any ops listed ∧ i < n ∧ qb.getD i false = true
    · obtain ⟨i, hi, hin, hqi⟩ := hqr
      obtain ⟨hun, o, ho, hall⟩ := mem_ready.1 hi
      obtain ⟨v, hrun, hΦ⟩ := (hop i o hin ho _ a w vs lo hi_ (getD_both hun) hR hF (hpre i o hi ho)).1 hqi
      have hnil : wr i = [] := by
        have h1 := List.all_eq_true.1 hwr i (by simpa using hin)
        rw [hqi] at h1
        simp at h1
        exact h1.1
      refine wpAny_first ho (Region.noSelect_spec hsel) (fun c a w => hQ c a _ _ w) (f + g) listed a w ?_ hi (.inl ⟨hguard i o hin ho, hrun⟩) ?_
      · intro j oj hoj hne hunj hno
        have h1 := List.all_eq_true.1 hq i (by simpa using hin)
        rw [hqi] at h1
        simp only [Bool.not_true, Bool.false_or] at h1
        have h2 := List.all_eq_true.1 h1 j (by have := (Array.getElem?_eq_some_iff.1 hoj).1; simpa using this)
        simp only [Bool.or_eq_true, decide_eq_true_eq] at h2
        rcases h2 with ((h2 | h2) | h2) | h2
        · exact (hne h2).elim
        · obtain ⟨oj', hoj', e, he, hb, heq⟩ := waitB_spec h2
          rw [hoj] at hoj'
          cases hoj'
          exact (hno e he hb heq).elim
        · obtain ⟨oi', hoi', e, he, hb, heq⟩ := waitB_spec h2
          rw [ho] at hoi'
          cases hoi'
          have := hall e he hb
          rw [heq, getD_both hunj] at this
          cases this
        · rw [ho, hoj] at h2
          exact h2
      · refine ih (listed.setIfInBounds i true) _ w (fun j => if j = i then v else vs j) (fun j => if j = i then w.heap.size else lo j) (fun j => if j = i then w.heap.size else hi_ j) ?_ (inv.set hi hin) ?_ ?_
        · have := un_set hun n hin
          omega
        · exact hR.step hst hin (KBut.of_below (Below.refl _ _)) (fun j hj => by rw [hnil] at hj; cases hj) (fun _ _ _ _ => hnil) hΦ (hon' i hun)
        · exact hF.put hd hin ho (getD_both hun) v _ (hon' i hun)
    · have hnq : ∀ i, i ∈ Region.ready .any ops listed → i < n → qb.getD i false = false := by
        intro i hi hin
        cases hx : qb.getD i false with
        | false => rfl
        | true => exact (hqr ⟨i, hi, hin, hx⟩).elim
      have ready_of : ∀ i, i < n → listed.getD i true = false → (∀ j, j < i → listed.getD j true = true) → i ∈ Region.ready .any ops listed := by
        intro i hi hf hlow
        have hs : i < ops.size := by omega
        have hpi := List.all_eq_true.1 hp i (by simpa using hi)
        rw [Array.getElem?_eq_getElem hs] at hpi
        simp only [Option.map_some, Option.getD_some, Bool.and_eq_true] at hpi
        refine mem_ready.2 ⟨hf, ops[i], Array.getElem?_eq_getElem hs, fun e he hb => ?_⟩
        have hpi2 := hpi.2
        rw [Array.all_eq_true'] at hpi2
        have := hpi2 e he
        simp [hb] at this
        have h1 := hlow e.on this
        have h2 : e.on < listed.size := by rw [inv.size]; omega
        simp [h2] at h1 ⊢
        exact h1
      obtain ⟨i0, hi0, hf0, hlow0⟩ := least_of (n := n) (p := fun i => listed.getD i true = false) (un_pos (l := listed) (k := n) (by omega))
      have hr0 := ready_of i0 hi0 hf0 (fun j hj => by
        cases hx : listed.getD j true with
        | true => rfl
        | false => exact (hlow0 j hj hx).elim)
      have hq0 := hnq i0 hr0 hi0
      refine ⟨fun h => (by rw [h] at hr0; cases hr0), fun i hi => ?_⟩
      obtain ⟨hun, o, ho, hall⟩ := mem_ready.1 hi
      have hin : i < n := by
        rcases Nat.lt_or_ge i n with h | h
        · exact h
        · exfalso
          have hsz := (Array.getElem?_eq_some_iff.1 ho).1
          unfold tailB at ht
          simp only [Bool.or_eq_true, decide_eq_true_eq, Bool.and_eq_true] at ht
          rcases ht with ht | ⟨⟨ht1, ht2⟩, ht3⟩
          · omega
          · by_cases e : i = n
            · subst e
              have h1 := List.all_eq_true.1 ht2 i0 (by simpa using hi0)
              rw [hq0] at h1
              simp only [Bool.false_or] at h1
              have := covB_listed inv (fun j hj => by
                obtain ⟨o', ho', e, he, hb, heq⟩ := waitB_spec hj
                rw [ho] at ho'
                cases ho'
                rw [← heq]
                exact hall e he hb) (List.range i).reverse [] (fun m hm => by cases hm) i0 (by simpa using h1)
              rw [getD_both hf0] at this
              cases this
            · have h1 := List.all_eq_true.1 ht3 i (by simpa using hsz)
              simp only [Bool.or_eq_true, decide_eq_true_eq] at h1
              rcases h1 with h1 | h1
              · omega
              · obtain ⟨o', ho', e, he, hb, heq⟩ := waitB_spec h1
                rw [ho] at ho'
                cases ho'
                have h2 := hall e he hb
                have h3 := inv.tail (i - 1) (by omega) (by omega)
                rw [heq, getD_both h3] at h2
                cases h2
      have hqi := hnq i hi hin
      have hop' := (hop i o hin ho _ a w vs lo hi_ (getD_both hun) hR hF (hpre i o hi ho)).2 hqi
      unfold wpOp
      simp only [ho]
      rw [if_pos (hguard i o hin ho)]
      refine .inl (Oper.wp_mono (fun a' w' h => ?_) hop')
      obtain ⟨v, rfl, hB, hΦ⟩ := h
      refine ih (listed.setIfInBounds i true) _ w' (fun j => if j = i then v else vs j) (fun j => if j = i then w.heap.size else lo j) (fun j => if j = i then w'.heap.size else hi_ j) ?_ (inv.set hi hin) ?_ ?_
      · have := un_set hun n hin
        omega
      · refine hR.step hst hin hB (fun j hj => ?_) (fun j hj hon hjt => ?_) hΦ (hon' i hun)
        · have h1 := List.all_eq_true.1 hwr i (by simpa using hin)
          simp only [Bool.and_eq_true] at h1
          have h2 := List.all_eq_true.1 h1.2 j hj
          simp only [Bool.and_eq_true, decide_eq_true_eq] at h2
          exact ⟨h2.1, hpre i o hi ho j (by simpa using h2.2)⟩
        have h1 := List.all_eq_true.1 htop j hjt
        have h2 := List.all_eq_true.1 h1 i (by simpa using hin)
        simp only [Bool.or_eq_true, decide_eq_true_eq] at h2
        rcases h2 with (h2 | h2) | h2
        · simpa using h2
        · exfalso
          have hj2 : j < ops.size := by omega
          have h3 := covB_listed (k := j) (n := n) inv (fun m hm => by
            obtain ⟨o', ho', e, he, hb, heq⟩ := waitB_spec hm
            rw [← heq]
            exact inv.closed j o' ho' hon e he hb) (List.range j).reverse [] (fun m hm => by cases hm) i (by simpa using h2)
          rw [getD_both hun] at h3
          cases h3
        · exfalso
          subst h2
          rw [getD_both hun] at hon
          cases hon
      · exact hF.put hd hin ho (getD_both hun) v _ (hon' i hun)

/-- the frame behind all of them -/
def putAll (ops : Array Oper) (vs : Nat → Value) : Nat → Act → Act
  | 0, a => a
  | k + 1, a => (putAll ops vs k a).put ((ops[k]?).bind (·.dst)) (vs k)

theorem fr_putAll (hd : dstsB ops n = true) (hn : n ≤ ops.size) (vs : Nat → Value) (a0 : Act) : ∀ k, k ≤ n → Fr n ops (fun i => decide (i < k)) vs a0 (putAll ops vs k a0)
  | 0, _ => Fr.start _ (fun i _ => by simp) vs a0
  | k + 1, hk => by
    have ih := fr_putAll hd hn vs a0 k (by omega)
    have ho : ops[k]? = some (ops[k]'(by omega)) := Array.getElem?_eq_getElem (by omega)
    have := ih.put hd (i := k) (by omega) ho (by simp) (vs k) (fun i => decide (i < k + 1)) (fun j hj => by
      by_cases e : j = k
      · subst e; simp
      · have : (j < k + 1) ↔ (j < k) := by omega
        simp [e, this])
    unfold putAll
    rw [ho]
    have hvs : (fun j => if j = k then vs k else vs j) = vs := by funext j; split <;> simp_all
    rw [hvs] at this
    exact this

/-- the same for each operation of a list -/
def rgAll (body : Nat → Oper → Prop) : Nat → List Oper → Prop
  | _, [] => True
  | k, o :: r => body k o ∧ rgAll body (k + 1) r
theorem rgAll_cons {body : Nat → Oper → Prop} {k : Nat} {o : Oper} {r : List Oper} (h : body k o) (hr : rgAll body (k + 1) r) : rgAll body k (o :: r) := ⟨h, hr⟩
theorem rgAll_nil {body : Nat → Oper → Prop} {k : Nat} : rgAll body k [] := trivial
theorem rgAll_get {body : Nat → Oper → Prop} : ∀ (l : List Oper) (k : Nat), rgAll body k l → ∀ i o, l[i]? = some o → body (k + i) o
  | [], _, _, i, o, h => by simp at h
  | x :: r, k, h, 0, o, ho => by simp at ho; subst ho; exact h.1
  | x :: r, k, h, i + 1, o, ho => by
    have := rgAll_get r (k + 1) h.2 i o (by simpa using ho)
    rwa [show k + 1 + i = k + (i + 1) from by omega] at this

def rgB (l : List Oper) (n : Nat) (qb : List Bool) : Bool :=
  Region.noSelect l.toArray && dstsB l.toArray n && predB l.toArray n && quietB l.toArray n qb && tailB l.toArray n qb && decide (n ≤ l.length) && Region.seqB .any l.toArray (l.toArray.size - n) n (headDone l.toArray.size n)

/-- ONE LAW FOR ALL ORDERS of a region: the first n operations in whatever order (qb: those that are taken first), then the tail -/
theorem wp_region_rg {id : Nat} {a0 : Act} {w : World} {l : List Oper} (n : Nat) (qb : List Bool) (wr : Nat → List Nat) (top : List Nat) (Φ : Nat → Value → World → Nat → Nat → Prop) (hm : P.follows .mixedOrders = true) (hQ : ∀ c a d v w, Q (.panic c) (a.put d v) w → Q (.panic c) a w)
    (hB : (rgB l n qb && topB l.toArray n wr top && wrB l.toArray n qb wr) = true)
    (hst : RGst n w.drew top Φ)
    (hop : rgAll (fun i o => RGop P l.toArray Q n w.drew a0 wr Φ (wr i) (qb.getD i false) i o) 0 (l.take n))
    (hend : ∀ W vs lo hi, RG n w.drew wr Φ (fun _ => true) W vs lo hi → wpList P l.toArray Q (l.drop n) (putAll l.toArray vs n a0) W) : (Code.region id l.toArray true).wp P Q a0 w := by
  simp only [rgB, Bool.and_eq_true, decide_eq_true_eq] at hB
  obtain ⟨⟨⟨⟨⟨⟨⟨⟨h1, h2⟩, h3⟩, h4⟩, h5⟩, h6⟩, h7⟩, h8⟩, h9⟩ := hB
  have hn : n ≤ l.toArray.size := by simpa using h6
  have inv0 : HeadInv .any l.toArray n (Array.replicate l.toArray.size false) :=
    ⟨by simp, fun j oj _ hl => (by rw [getD_replicate_false] at hl; cases hl), fun t _ ht => getD_in (by simpa using ht) (getD_replicate_false _ _)⟩
  have hoff : ∀ i, (Array.replicate l.toArray.size false).getD i false = false := getD_replicate_false _
  refine wp_region_any hm ?_
  have := any_of_rg (P := P) (Q := Q) (n := n) w.drew a0 qb wr top Φ (g := l.toArray.size - n) h8 h9 h1 h2 h3 h4 h5 hn hQ hst (fun i o hi ho => ?_) (fun listed a W vs lo hi inv hu hR hF => ?_) n (Array.replicate l.toArray.size false) a0 w.drew (fun _ => undef) (fun _ => 0) (fun _ => 0) (un_none _ _ hn) inv0
    ⟨Below.refl _ _, fun i _ h => (by rw [hoff i] at h; cases h), fun i _ h => (by rw [hoff i] at h; cases h), fun i j _ _ h => (by rw [hoff i] at h; cases h)⟩ (Fr.start _ (fun i _ => hoff i) _ _)
  · rw [show n + (l.toArray.size - n) = l.toArray.size from by omega] at this
    exact this
  · have := rgAll_get (l.take n) 0 hop i o (by
      rw [List.getElem?_take, if_pos hi]
      simpa using ho)
    simpa using this
  · have hk := fr_putAll h2 hn vs a0 n (Nat.le_refl _)
    have e := hF.unique hk (fun i hi => by simp [hi]) (fun _ _ _ => rfl)
    rw [e, listed_eq inv hu]
    have hl : (l.drop n).length = l.toArray.size - n := by simp
    have := wpAny_of_seq (md := .any) (Q' := Q) (l.drop n) n (headDone l.toArray.size n) (putAll l.toArray vs n a0) W (fun j => by simp [List.getElem?_drop]) (by rw [hl]; exact h7) (hend W vs lo hi hR)
    rwa [hl] at this

end

theorem apart_ne {a b l h l' h' : Nat} (q : h ≤ l' ∨ h' ≤ l) (ha : l ≤ a ∧ a < h) (hb : l' ≤ b ∧ b < h') : a ≠ b := by omega

theorem memB {l : List Nat} {j : Nat} (h : l.contains j = true) : j ∈ l := by simpa using h

/-! ### single operations -/
section
variable {P : Program} {ops : Array Oper} {Q : Exit → Act → World → Prop} {n : Nat} {w0 : World} {a0 : Act} {Φ : Nat → Value → World → Nat → Nat → Prop} {i : Nat} {o : Oper}

/-- an operation that is taken first -/
theorem rg_q {wr : Nat → List Nat} {wi : List Nat} (h : ∀ (on : Nat → Bool) (a : Act) (W : World) (vs : Nat → Value) (lo hi : Nat → Nat), RG n w0 wr Φ on W vs lo hi → Fr n ops on vs a0 a → (∀ j, j ∈ predsR ops i → on j = true) → ∃ v, (∀ w, (execOp a.eval o).run P w = .ok (.value v) w) ∧ Φ i v W W.heap.size W.heap.size) : RGop P ops Q n w0 a0 wr Φ wi true i o :=
  fun on a W vs lo hi _ hR hF hp => ⟨fun _ => h on a W vs lo hi hR hF hp, fun h => by cases h⟩
/-- one that writes to nothing that the others have made -/
theorem rg_n {wr : Nat → List Nat} (h : ∀ (on : Nat → Bool) (a : Act) (W : World) (vs : Nat → Value) (lo hi : Nat → Nat), RG n w0 wr Φ on W vs lo hi → Fr n ops on vs a0 a → (∀ j, j ∈ predsR ops i → on j = true) →
    o.wp P a W (fun a' W' => ∃ v, a' = a.put o.dst v ∧ Below W.heap.size W W' ∧ Φ i v W' W.heap.size W'.heap.size) Q) : RGop P ops Q n w0 a0 wr Φ [] false i o :=
  fun on a W vs lo hi _ hR hF hp => ⟨fun h => (by cases h), fun _ => Oper.wp_mono (fun a' W' h => by
    obtain ⟨v, h1, h2, h3⟩ := h
    exact ⟨v, h1, KBut.of_below h2, h3⟩) (h on a W vs lo hi hR hF hp)⟩
/-- one that writes to what j has made -/
theorem rg_w {wr : Nat → List Nat} (j : Nat) (hj : Nat.blt j n = true) (hm : (predsR ops i).contains j = true) (ho : ((List.range n).all fun k => decide (k = i) || !(wr k).contains j) = true)
    (h : ∀ (on : Nat → Bool) (a : Act) (W : World) (vs : Nat → Value) (lo hi : Nat → Nat), RG n w0 wr Φ on W vs lo hi → Fr n ops on vs a0 a → (∀ j, j ∈ predsR ops i → on j = true) → Φ j (vs j) W (lo j) (hi j) → lo j ≤ hi j → hi j ≤ W.heap.size →
    o.wp P a W (RGpost W a o.dst (ofB [j] lo hi) (Φ i)) Q) : RGop P ops Q n w0 a0 wr Φ [j] false i o :=
  fun on a W vs lo hi hoff hR hF hp => ⟨fun h => (by cases h), fun _ => by
    have hjn : j < n := by simpa [Nat.blt_eq] using hj
    have hjon : on j = true := hp j (by simpa using hm)
    obtain ⟨_, b2, b3⟩ := hR.bnd j hjn hjon
    refine h on a W vs lo hi hR hF hp (hR.dyn j hjn hjon fun k hk hon hmem => ?_) b2 b3
    have := List.all_eq_true.1 ho k (by simpa using hk)
    simp at this
    rcases this with rfl | h2
    · rw [hoff] at hon; cases hon
    · exact h2 hmem⟩
end

section
variable {P : Program} {Q : Exit → Act → World → Prop} {a : Act} {W : World} {dst : Option Tmp} {ty : TypeId} {pos : String} {af : Array Edge} {g : Option (Nat × Bool)} {Ψ : Value → World → Nat → Nat → Prop}

abbrev RGp (W : World) (a : Act) (dst : Option Tmp) (Ψ : Value → World → Nat → Nat → Prop) (a' : Act) (W' : World) : Prop := ∃ v, a' = a.put dst v ∧ Below W.heap.size W W' ∧ Ψ v W' W.heap.size W'.heap.size
theorem rg_val {o : Oper} {v : Value} {W' : World} (hrun : (execOp a.eval o).run P W = .ok (.value v) W') (hB : Below W.heap.size W W') (h : Ψ v W' W.heap.size W'.heap.size) : o.wp P a W (RGp W a o.dst Ψ) Q := by
  unfold Oper.wp
  rw [hrun]
  exact ⟨v, rfl, hB, h⟩
theorem rg_call1 {f : FuncId} {p : Operand} {ts : Array TypeId} {v : Value} (hp : a.eval p = v) (hcf : ∀ (v : Value) (w : World), (callFunc f #[v]).run P w = .ok (.enter f #[v]) w)
    (hc : Calls P f #[v] W fun e w' => ∃ u, e = .returned u ∧ Below W.heap.size W w' ∧ Ψ u w' W.heap.size w'.heap.size) :
    (⟨dst, .call { callee := .value (.func f), args := #[p], argTypes := ts }, ty, pos, af, g⟩ : Oper).wp P a W (RGp W a dst Ψ) Q := by
  unfold Oper.wp
  have hrun : (execOp a.eval ⟨dst, .call { callee := .value (.func f), args := #[p], argTypes := ts }, ty, pos, af, g⟩).run P W = .ok (.enter f #[v]) W := by
    have h1 := hcf v W
    have h2 : a.eval (.func f) = .func (.func f) #[] #[] := rfl
    simp only [execOp, resolve, List.map_toArray, List.map_cons, List.map_nil, hp, h2]
    simp [Deferred.ofValue, invoke, h1]
  rw [hrun]
  refine Calls.mono hc ?_
  rintro e w' ⟨u, rfl, hB, hh⟩
  exact ⟨u, rfl, hB, hh⟩
theorem rg_call2 {f : FuncId} {p q : Operand} {ts : Array TypeId} {v u : Value} (hp : a.eval p = v) (hq : a.eval q = u) (hcf : ∀ (v u : Value) (w : World), (callFunc f #[v, u]).run P w = .ok (.enter f #[v, u]) w)
    (hc : Calls P f #[v, u] W fun e w' => ∃ u, e = .returned u ∧ Below W.heap.size W w' ∧ Ψ u w' W.heap.size w'.heap.size) :
    (⟨dst, .call { callee := .value (.func f), args := #[p, q], argTypes := ts }, ty, pos, af, g⟩ : Oper).wp P a W (RGp W a dst Ψ) Q := by
  unfold Oper.wp
  have hrun : (execOp a.eval ⟨dst, .call { callee := .value (.func f), args := #[p, q], argTypes := ts }, ty, pos, af, g⟩).run P W = .ok (.enter f #[v, u]) W := by
    have h1 := hcf v u W
    have h2 : a.eval (.func f) = .func (.func f) #[] #[] := rfl
    simp only [execOp, resolve, List.map_toArray, List.map_cons, List.map_nil, hp, hq, h2]
    simp [Deferred.ofValue, invoke, h1]
  rw [hrun]
  refine Calls.mono hc ?_
  rintro e w' ⟨u, rfl, hB, hh⟩
  exact ⟨u, rfl, hB, hh⟩
theorem rg_alloc {T : TypeId} {z : Value} (hz : (zeroValue T).run P W = .ok z W) (h : ∀ b, b = W.heap.size → Ψ (.pointer (some ⟨b, 0, none⟩)) (W.alloc (.cells z.cells T)) b (b + 1)) : (⟨dst, .alloc T, ty, pos, af, g⟩ : Oper).wp P a W (RGp W a dst Ψ) Q := by
  refine rg_val (v := .pointer (some ⟨W.heap.size, 0, none⟩)) (W' := W.alloc (.cells z.cells T)) ?_ (Below.new W _) ?_
  · simp only [execOp, Instr.alloc, Sem.run_bind, hz, Result.andThen_ok]
    rfl
  · have := h _ rfl
    simpa using this
theorem run_move {p : Operand} {v : Value} (hp : a.eval p = v) (w : World) : (execOp a.eval ⟨dst, .move p, ty, pos, af, g⟩).run P w = .ok (.value v) w := by simp [execOp, hp]
theorem run_extract {p : Operand} {vs : Array Value} {k : Nat} {v : Value} (hp : a.eval p = .tuple vs) (hk : vs[k]? = some v) (w : World) : (execOp a.eval ⟨dst, .extract p k, ty, pos, af, g⟩).run P w = .ok (.value v) w := by simp [execOp, hp, Instr.extract, hk]
theorem rg_move {p : Operand} {v : Value} (hp : a.eval p = v) (h : Ψ v W W.heap.size W.heap.size) : (⟨dst, .move p, ty, pos, af, g⟩ : Oper).wp P a W (RGp W a dst Ψ) Q :=
  rg_val (v := v) (W' := W) (by simp [execOp, hp]) (Below.refl _ _) h
theorem rg_extract {p : Operand} {vs : Array Value} {k : Nat} {v : Value} (hp : a.eval p = .tuple vs) (hk : vs[k]? = some v) (h : Ψ v W W.heap.size W.heap.size) : (⟨dst, .extract p k, ty, pos, af, g⟩ : Oper).wp P a W (RGp W a dst Ψ) Q :=
  rg_val (v := v) (W' := W) (by simp [execOp, hp, Instr.extract, hk]) (Below.refl _ _) h
end

end Go.Proofs.Ytpooakhmpfbmgaa
