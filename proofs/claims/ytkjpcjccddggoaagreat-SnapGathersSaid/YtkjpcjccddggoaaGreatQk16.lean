/- Walks by data and names, part 16: A region that draws its order: reads and reckonings ('quiet' in a class S of worlds), steps that turn the world in one forced order among them, and a tail that waits for all: ONE walk, in an order that is named and checked by the kernel. -/
import Derived.StillTailTactics
import Derived.Deep.RegionHeld3
import Derived.Test.YtkjpcjccddggoaaGreatQk1
namespace Go.Proofs.YtkjpcjccddggoaaGreat
open Go.RowKit
section
variable {P : Program} {ops : Array Oper} {Q : Exit → Act → World → Prop} {S : World → Prop} {L : Array Bool → Act → World → Prop} {n : Nat}
/-- the head of a region: so many operations with numbers below n are still to come; S after each; then L -/
def wpHL (P : Program) (ops : Array Oper) (Q : Exit → Act → World → Prop) (S : World → Prop) (n : Nat) (L : Array Bool → Act → World → Prop) : Nat → Array Bool → Act → World → Prop
  | 0, listed, a, w => (∀ j ∈ Region.ready .any ops listed, n ≤ j) ∧ L listed a w
  | f + 1, listed, a, w => (∃ j, j ∈ Region.ready .any ops listed) ∧ ∀ i ∈ Region.ready .any ops listed, i < n → wpOp P ops Q i (fun a' w' => S w' ∧ wpHL P ops Q S n L f (listed.setIfInBounds i true) a' w') a w
theorem wpHL_first {i : Nat} {oi : Oper} {v : Value} (hi : ops[i]? = some oi) (hin : i < n) (hsel : ∀ (j : Nat) (o : Oper) cs b, ops[j]? = some o → o.op ≠ .select cs b)
    (hQ : ∀ c a d v w, Q (.panic c) (a.put d v) w → Q (.panic c) a w) :
    ∀ (f : Nat) (listed : Array Bool) (a : Act) (w : World),
      (∀ j oj, ops[j]? = some oj → j ≠ i → listed.getD j true = false → (∀ e ∈ oj.after, Region.binds .any e = true → e.on ≠ i) → oi.apart ops oj = true) →
      i ∈ Region.ready .any ops listed → YieldsIf P ops S oi v a → S w →
      wpHL P ops Q S n L f (listed.setIfInBounds i true) (a.put oi.dst v) w → wpHL P ops Q S n L (f + 1) listed a w := by
  intro f
  induction f with
  | zero =>
    intro listed a w _ hr hy hS H
    refine ⟨⟨i, hr⟩, fun j hj hjn => ?_⟩
    by_cases e : j = i
    · subst e; exact hy.wpOp hi hS ⟨hS, H⟩
    · have := H.1 j (ready_mono hj e)
      omega
  | succ f ih =>
    intro listed a w hfree hr hy hS H
    refine ⟨⟨i, hr⟩, fun j hj hjn => ?_⟩
    by_cases e : j = i
    · subst e; exact hy.wpOp hi hS ⟨hS, H⟩
    · obtain ⟨hjun, oj, hoj, hall⟩ := mem_ready.1 hj
      have hun := (mem_ready.1 hr).1
      have hnot : ∀ x ∈ oj.after, Region.binds .any x = true → x.on ≠ i := fun x hx hb heq => by
        have h1 := hall x hx hb
        rw [heq, getD_both hun] at h1
        cases h1
      have hput := wpOp_putIf hoj (hfree j oj hoj e hjun hnot) (fun cs b => hsel i oi cs b hi) (fun cs b => hsel j oj cs b hoj) (fun c a w => hQ c a _ _ w) hy (H.2 j (ready_mono hj e) hjn)
      refine wpOp_mono (fun a' w' h3 => ⟨h3.2.1, ?_⟩) hput
      refine ih (listed.setIfInBounds j true) a' w' (fun k ok hk hki hku hno => hfree k ok hk hki ?_ hno) (ready_mono hr (fun h => e h.symm)) h3.1 h3.2.1 ?_
      · by_cases hjk : j = k
        · subst hjk; exact hjun
        · rwa [getD_set_ne true hjk] at hku
      · rw [Array.setIfInBounds_comm _ _ e]
        exact h3.2.2
/-- how many of the first k are still to come -/
def un (listed : Array Bool) : Nat → Nat
  | 0 => 0
  | k + 1 => (if listed.getD k true = true then 0 else 1) + un listed k
theorem un_congr {l l' : Array Bool} : ∀ k, (∀ i, i < k → l.getD i true = l'.getD i true) → un l k = un l' k
  | 0, _ => rfl
  | k + 1, h => by rw [un, un, h k (by omega), un_congr k (fun i hi => h i (by omega))]
theorem un_set {l : Array Bool} {i : Nat} (hi : l.getD i true = false) : ∀ k, i < k → un (l.setIfInBounds i true) k + 1 = un l k
  | 0, h => by omega
  | k + 1, h => by
    have hlt : i < l.size := by
      rcases Nat.lt_or_ge i l.size with h' | h'
      · exact h'
      · simp [Array.getElem?_eq_none h'] at hi
    by_cases e : i = k
    · subst e
      have h1 : (l.setIfInBounds i true).getD i true = true := by simp [hlt]
      rw [un, un, h1, hi, un_congr (l := l.setIfInBounds i true) (l' := l) i (fun j hj => getD_set_ne true (by omega))]
      simp; omega
    · rw [un, un, getD_set_ne true e]
      have := un_set hi k (by omega)
      omega
theorem un_pos {l : Array Bool} : ∀ {k}, 0 < un l k → ∃ i, i < k ∧ l.getD i true = false
  | 0, h => by simp [un] at h
  | k + 1, h => by
    cases e : l.getD k true with
    | false => exact ⟨k, by omega, e⟩
    | true =>
      rw [un, e] at h
      obtain ⟨i, hi, he⟩ := un_pos (k := k) (by simpa using h)
      exact ⟨i, by omega, he⟩
theorem un_none (m : Nat) : ∀ k, k ≤ m → un (Array.replicate m false) k = k
  | 0, _ => rfl
  | k + 1, h => by
    rw [un, un_none m k (by omega)]
    simp [show k < m from by omega]; omega
/-- the head, and then the tail, come to the region -/
theorem wpAny_of_HL {g : Nat} (hs : n = ops.size ∨ (Region.sinkB .any ops n = true ∧ Region.chainB .any ops n = true ∧ n < ops.size)) (hL : ∀ listed a w, HeadInv .any ops n listed → un listed n = 0 → (∀ j ∈ Region.ready .any ops listed, n ≤ j) → L listed a w → wpAny P .any ops Q g listed a w) :
    ∀ (f : Nat) (listed : Array Bool) (a : Act) (w : World), HeadInv .any ops n listed → un listed n = f → wpHL P ops Q S n L f listed a w → wpAny P .any ops Q (f + g) listed a w := by
  intro f
  induction f with
  | zero => intro listed a w inv hu h; rw [Nat.zero_add]; exact hL _ _ _ inv hu h.1 h.2
  | succ f ih =>
    intro listed a w inv hu h
    obtain ⟨⟨j, hj⟩, h⟩ := h
    obtain ⟨i0, hi0, hun⟩ := un_pos (l := listed) (k := n) (by omega)
    rw [show f + 1 + g = (f + g) + 1 from by omega]
    refine ⟨fun h0 => (by rw [h0] at hj; cases hj), fun i hi => ?_⟩
    have hin : i < n := by
      rcases hs with rfl | ⟨hs, hc, hn⟩
      · obtain ⟨_, o, ho, _⟩ := mem_ready.1 hi
        exact (Array.getElem?_eq_some_iff.1 ho).1
      · rcases Nat.lt_or_ge i n with h' | h'
        · exact h'
        · exact absurd hi (tail_waits hs hc hn inv _ i0 rfl hi0 hun i h')
    refine wpOp_mono (fun a' w' h3 => ?_) (h i hi hin)
    refine ih _ a' w' (inv.set hi hin) ?_ h3.2
    have := un_set (mem_ready.1 hi).1 n hin
    omega
/-! ### the order that is named -/
inductive Seg where
  | q (l : List Nat)
  | e (i : Nat)
/-- the walk in segments: quiet ones by 'wpQuiet' at the class S, the others one by one -/
def wpSegs (P : Program) (ops : Array Oper) (Q : Exit → Act → World → Prop) (S : World → Prop) (L : Act → World → Prop) : List Seg → Act → World → Prop
  | [], a, w => L a w
  | .q l :: r, a, w => S w ∧ wpQuiet P ops S (fun a' => wpSegs P ops Q S L r a' w) (l.filterMap (ops[·]?)) a
  | .e i :: r, a, w => wpList P ops (Exit.then (fun a' w' => S w' ∧ wpSegs P ops Q S L r a' w') Q) ([i].filterMap (ops[·]?)) a w
/-- operations that yield a value, and never a call of Go code -/
def heldOp (o : Oper) : Bool :=
  match o.op with
  | .move _ | .assign _ | .pick .. | .load .. | .binOp .. | .unOp .. | .convert .. | .fieldAddr .. | .field .. | .indexAddr .. | .index .. | .extract .. | .slice .. | .build .. | .makeInterface .. | .makeFunc .. => true
  | .nilCheck _ => true
  | .call { callee := .builtin .len, .. } | .call { callee := .builtin .min, .. } | .call { callee := .builtin .max, .. } | .call { callee := .builtin .cap, .. } => true
  | _ => false
theorem andThen_val {s : Sem Value} {x : Next} {w w' : World} (h : ((do pure (Next.value (← s))) : Sem Next).run P w = .ok x w') : ∃ v, x = .value v := by
  rw [Sem.run_bind] at h
  cases hs : s.run P w with
  | ok v w1 => rw [hs] at h; simp [Result.andThen] at h; exact ⟨v, h.1.symm⟩
  | halt y w1 => rw [hs] at h; simp [Result.andThen] at h
theorem bind_val {α : Type} {s : Sem α} {k : α → Sem Next} {x : Next} {w w' : World} (hk : ∀ a w1, (k a).run P w1 = .ok x w' → ∃ v, x = .value v) (h : (s >>= k).run P w = .ok x w') : ∃ v, x = .value v := by
  rw [Sem.run_bind] at h
  cases hs : s.run P w with
  | ok v w1 => rw [hs] at h; exact hk v w1 h
  | halt y w1 => rw [hs] at h; simp [Result.andThen] at h
theorem pure_val {u : Value} {x : Next} {w w' : World} (h : (pure (Next.value u) : Sem Next).run P w = .ok x w') : ∃ v, x = .value v := by
  simp at h; exact ⟨u, h.1.symm⟩
theorem panic_val {x : Next} {w w' : World} (h : (runtimePanic .nilDeref : Sem Next).run P w = .ok x w') : ∃ v, x = .value v := by
  simp [runtimePanic, goPanic, Sem.run] at h
theorem held_value {o : Oper} (hh : heldOp o = true) {ev : Operand → Value} {x : Next} {w w' : World} (h : (execOp ev o).run P w = .ok x w') : ∃ v, x = .value v := by
  unfold heldOp at hh
  unfold execOp at h
  split at hh <;> rename_i ho <;> simp only [ho] at h
  all_goals first
    | exact andThen_val h
    | (simp at h; exact ⟨_, h.1.symm⟩)
    | cases hh
    | exact bind_val (fun _ _ h => pure_val h) h
    | skip
  · refine bind_val (fun b w1 hb => ?_) h
    exact pure_val hb
  · split at h
    · exact panic_val h
    · exact panic_val h
    · exact panic_val h
    · split at h
      · exact panic_val h
      · refine bind_val (fun _ _ h => ?_) h
        refine bind_val (fun _ _ h => ?_) h
        split at h
        · refine bind_val (fun _ _ h => pure_val h) h
        · exact pure_val h
      · exact pure_val h
    · exact pure_val h
theorem yieldsIf_of_quiet {o : Oper} {a : Act} {K : Act → Prop} (hc : heldOp o = true) (hw : Region.wanted o (yielded ops a.tmps) = true) (h : o.quiet P a S K) : ∃ v, YieldsIf P ops S o v a ∧ K (a.put o.dst v) := by
  obtain ⟨v, hv, hk⟩ := h
  refine ⟨v, .inl ⟨hw, fun w hw' => ?_⟩, hk⟩
  have h1 := hv w hw'
  unfold Oper.quietAt at h1
  cases hr : (execOp a.eval o).run P w with
  | halt y w1 => rw [hr] at h1; cases h1
  | ok x w1 =>
    obtain ⟨u, rfl⟩ := held_value hc hr
    rw [hr] at h1
    obtain ⟨rfl, rfl⟩ := h1
    rfl
def flat : List Seg → List (Nat × Bool)
  | [] => []
  | .q l :: r => l.map (fun i => (i, true)) ++ flat r
  | .e i :: r => (i, false) :: flat r
/-- is this an order that serves all? (n: the head's length) -/
def flatB (ops : Array Oper) (n : Nat) : List (Nat × Bool) → Array Bool → Bool
  | [], listed => (Region.ready .any ops listed).all (fun j => decide (n ≤ j))
  | (i, true) :: r, listed => decide (i < n) && (Region.ready .any ops listed).contains i && Region.free .any ops listed i && ((ops[i]?).map heldOp).getD false && flatB ops n r (listed.setIfInBounds i true)
  | (i, false) :: r, listed => decide (i < n) && decide ((Region.ready .any ops listed) = [i]) && flatB ops n r (listed.setIfInBounds i true)
theorem oper_wp_then {o : Oper} {a : Act} {w : World} {next : Act → World → Prop} {K : Act → World → Prop} (h : o.wp P a w next (Exit.then K Q)) : o.wp P a w next Q := by
  unfold Oper.wp Oper.upon at *
  split at h <;> first
    | exact h
    | (refine Calls.mono h fun e w' he => ?_
       cases e <;> exact he)
theorem oper_then_wp {o : Oper} {a : Act} {w : World} {next : Act → World → Prop} {K : Act → World → Prop} (h : o.wp P a w next Q) : o.wp P a w next (Exit.then K Q) := by
  unfold Oper.wp Oper.upon at *
  split at h <;> first
    | exact h
    | (refine Calls.mono h fun e w' he => ?_
       cases e <;> exact he)
theorem wpOp_of_list {i : Nat} {o : Oper} {a : Act} {w : World} {K : Act → World → Prop} (hi : ops[i]? = some o) (h : wpList P ops (Exit.then K Q) [o] a w) : wpOp P ops Q i K a w := by
  unfold wpOp
  simp only [hi]
  unfold wpList at h
  split
  · rename_i hw
    rw [if_pos hw] at h
    rcases h with h | h
    · exact .inl (oper_wp_then (K := K) h)
    · exact .inr h
  · rename_i hw
    rw [if_neg hw] at h
    exact h
theorem wpHL_quiet {i : Nat} {o : Oper} {rest : List Oper} {f : Nat} {listed : Array Bool} {a : Act} {w : World} {Q' : Act → Prop} (hi : ops[i]? = some o) (hin : i < n) (hsel : ∀ (j : Nat) (o : Oper) cs b, ops[j]? = some o → o.op ≠ .select cs b)
    (hQ : ∀ c a d v w, Q (.panic c) (a.put d v) w → Q (.panic c) a w) (hr : i ∈ Region.ready .any ops listed) (hf : Region.free .any ops listed i = true) (hh : heldOp o = true) (hS : S w)
    (h : wpQuiet P ops S Q' (o :: rest) a) (hk : ∀ a', wpQuiet P ops S Q' rest a' → wpHL P ops Q S n L f (listed.setIfInBounds i true) a' w) : wpHL P ops Q S n L (f + 1) listed a w := by
  unfold wpQuiet at h
  by_cases hw : Region.wanted o (yielded ops a.tmps) = true
  · rw [if_pos hw] at h
    obtain ⟨v, hy, hv⟩ := yieldsIf_of_quiet hh hw h
    exact wpHL_first hi hin hsel hQ f listed a w (Region.free_spec hi hf) hr hy hS (hk _ hv)
  · rw [if_neg hw] at h
    exact wpHL_first hi hin hsel hQ f listed a w (Region.free_spec hi hf) hr (.inr ⟨by simpa using hw, rfl⟩) hS (hk _ h)
theorem wpHL_of_segs {L' : Act → World → Prop} (hsel : ∀ (j : Nat) (o : Oper) cs b, ops[j]? = some o → o.op ≠ .select cs b) (hQ : ∀ c a d v w, Q (.panic c) (a.put d v) w → Q (.panic c) a w) :
    ∀ (l : List Seg) (listed : Array Bool) (a : Act) (w : World), flatB ops n (flat l) listed = true → wpSegs P ops Q S L' l a w → wpHL P ops Q S n (fun _ => L') (flat l).length listed a w
  | [], listed, a, w, hB, h => ⟨fun j hj => by
      have := List.all_eq_true.1 hB j hj
      simpa using this, h⟩
  | .e i :: r, listed, a, w, hB, h => by
    simp only [flat, flatB, Bool.and_eq_true, decide_eq_true_eq] at hB
    obtain ⟨⟨hin, hr⟩, hB'⟩ := hB
    have hmem : i ∈ Region.ready .any ops listed := by rw [hr]; simp
    obtain ⟨_, o, ho, _⟩ := mem_ready.1 hmem
    refine ⟨⟨i, hmem⟩, fun j hj _ => ?_⟩
    rw [hr] at hj
    obtain rfl : j = i := by simpa using hj
    have h' : wpList P ops (Exit.then (fun a' w' => S w' ∧ wpSegs P ops Q S L' r a' w') Q) [o] a w := by
      have : [j].filterMap (ops[·]?) = [o] := by simp [ho]
      rw [← this]; exact h
    refine wpOp_mono (fun a' w' h3 => ⟨h3.1, ?_⟩) (wpOp_of_list ho h')
    exact wpHL_of_segs hsel hQ r _ a' w' hB' h3.2
  | .q [] :: r, listed, a, w, hB, h => wpHL_of_segs hsel hQ r listed a w hB h.2
  | .q (i :: l) :: r, listed, a, w, hB, h => by
    simp only [flat, List.map_cons, List.cons_append, flatB, Bool.and_eq_true, decide_eq_true_eq] at hB
    obtain ⟨⟨⟨⟨hin, hr⟩, hf⟩, hh⟩, hB'⟩ := hB
    have hmem : i ∈ Region.ready .any ops listed := by simpa using hr
    obtain ⟨_, o, ho, _⟩ := mem_ready.1 hmem
    have hh' : heldOp o = true := by simpa [ho] using hh
    have h2 : wpQuiet P ops S (fun a' => wpSegs P ops Q S L' r a' w) (o :: l.filterMap (ops[·]?)) a := by
      have := h.2
      rw [List.filterMap_cons, ho] at this
      exact this
    exact wpHL_quiet ho hin hsel hQ hmem hf hh' h.1 h2 fun a' h3 => wpHL_of_segs hsel hQ (.q l :: r) _ a' w hB' ⟨h.1, h3⟩
def headDone (m n : Nat) : Array Bool := ((List.range m).map fun i => decide (i < n)).toArray
theorem un_zero {l : Array Bool} : ∀ {k}, un l k = 0 → ∀ i, i < k → l.getD i true = true
  | 0, _, i, hi => by omega
  | k + 1, h, i, hi => by
    rw [un] at h
    by_cases e : i = k
    · subst e
      cases e2 : l.getD i true with
      | true => rfl
      | false => rw [e2] at h; simp at h
    · exact un_zero (k := k) (by omega) i (by omega)
theorem listed_eq {listed : Array Bool} (inv : HeadInv .any ops n listed) (hu : un listed n = 0) : listed = headDone ops.size n := by
  apply Array.ext
  · simp [headDone, inv.size]
  · intro i h1 h2
    have hs := inv.size
    rw [show (headDone ops.size n)[i] = decide (i < n) from by simp [headDone]]
    by_cases e : i < n
    · have := un_zero hu i e
      simp [h1] at this
      simp [this, e]
    · have := inv.tail i (by omega) (by omega)
      simp [h1] at this
      simp [this, e]
/-- the checks of an order that is named: the head has n operations, the tail (if there is one) waits for all of them -/
def segsOk (ops : Array Oper) (n : Nat) (l : List Seg) : Bool :=
  Region.noSelect ops && (decide (n = ops.size) || (Region.sinkB .any ops n && Region.chainB .any ops n && decide (n < ops.size))) && decide ((flat l).length = n) && flatB ops n (flat l) (Array.replicate ops.size false) &&
    Region.seqB .any ops (ops.size - n) n (headDone ops.size n)
/-- ONE WALK FOR EVERY ORDER of a region: the segments that are named, and then the tail -/
theorem wp_region_segs {id : Nat} {a : Act} {w : World} {l : List Oper} (n : Nat) (segs : List Seg) (S : World → Prop) (hm : P.follows .mixedOrders = true) (hB : segsOk l.toArray n segs = true) (hQ : ∀ c a d v w, Q (.panic c) (a.put d v) w → Q (.panic c) a w)
    (h : wpSegs P l.toArray Q S (fun a' w' => wpList P l.toArray Q (l.drop n) a' w') segs a w.drew) : (Code.region id l.toArray true).wp P Q a w := by
  simp only [segsOk, Bool.and_eq_true, Bool.or_eq_true, decide_eq_true_eq] at hB
  obtain ⟨⟨⟨⟨hsel, hn⟩, hlen⟩, hfl⟩, hseq⟩ := hB
  have hle : n ≤ l.toArray.size := by rcases hn with h | h <;> omega
  have inv0 : HeadInv .any l.toArray n (Array.replicate l.toArray.size false) :=
    ⟨by simp, fun j oj _ hl => (by rw [getD_replicate_false] at hl; cases hl), fun t _ ht => getD_in (by simpa using ht) (getD_replicate_false _ _)⟩
  refine wp_region_any hm ?_
  have H := wpHL_of_segs (n := n) (Region.noSelect_spec hsel) hQ segs (Array.replicate l.toArray.size false) a w.drew hfl h
  rw [hlen] at H
  have := wpAny_of_HL (g := l.toArray.size - n) (by rcases hn with h | ⟨⟨h1, h2⟩, h3⟩; exact .inl h; exact .inr ⟨h1, h2, h3⟩) (fun listed a' w' inv hu _ hL => by
    rw [listed_eq inv hu]
    have hl : (l.drop n).length = l.toArray.size - n := by simp
    have := wpAny_of_seq (md := .any) (Q' := Q) (l.drop n) n (headDone l.toArray.size n) a' w' (fun j => by simp [List.getElem?_drop]) (by rw [hl]; exact hseq) hL
    rwa [hl] at this) n _ a w.drew inv0 (un_none _ _ hle) H
  rw [show n + (l.toArray.size - n) = l.toArray.size from by omega] at this
  exact this
end
/-! ### loads of one cell -/
theorem below_cell {W w' : World} {p : Addr} {v : Value} (hS : Below W.heap.size W w') (h : W.cell? p = some v) : w'.cell? p = some v := (hS.cell (World.block_lt_of_cell? W _ h)).trans h
/-- a type whose values have one cell -/
def scalarTy (P : Program) (ty : TypeId) : Bool :=
  match P.underlying ty with
  | some (.struct _) | some (.array _ _) => false
  | some _ => true
  | none => false
theorem run_load1 {P : Program} {w : World} {ty : TypeId} {a : Addr} {v : Value} (hty : scalarTy P ty = true) (h : w.cell? a = some v) : (loadVar ty a).run P w = .ok v w := by
  unfold scalarTy at hty
  cases hu : P.underlying ty with
  | none => rw [hu] at hty; cases hty
  | some d =>
    have hagg : (isAgg ty).run P w = .ok false w := by
      unfold isAgg
      rw [Sem.run_bind, run_underlying hu w]
      cases d <;> first | rfl | (rw [hu] at hty; cases hty)
    simp only [loadVar, Sem.run_bind, hagg, Result.andThen_ok]
    simp [load, Sem.run, h]
section
variable {P : Program} {ops : Array Oper} {C : World → Prop} {Q : Act → Prop} {rest : List Oper} {a : Act} {dst : Option Tmp} {p : Operand} {lt ty : TypeId} {pos : String} {af : Array Edge} {g : Option (Nat × Bool)} {b o : Nat} {v : Value}
theorem op_load1 (ev : Operand → Value) {w : World} (hp : ev p = .pointer (some ⟨b, o, none⟩)) (hty : scalarTy P lt = true) (h : w.cell? ⟨b, o, none⟩ = some v) :
    (execOp ev ⟨dst, .load lt p, ty, pos, af, g⟩).run P w = .ok (.value v) w := by
  simp only [execOp, hp, Instr.loadAt, Instr.sureAddr, Sem.run_bind, Sem.run_pure, Result.andThen_ok, run_load1 hty h]
theorem wq_load1 (hw : Region.wanted ⟨dst, .load lt p, ty, pos, af, g⟩ (yielded ops a.tmps) = true) (hp : a.eval p = .pointer (some ⟨b, o, none⟩)) (hty : scalarTy P lt = true)
    (h : ∀ w, C w → w.cell? ⟨b, o, none⟩ = some v) (hk : wpQuiet P ops C Q rest (a.put dst v)) : wpQuiet P ops C Q (⟨dst, .load lt p, ty, pos, af, g⟩ :: rest) a :=
  wq_of hw (fun w hC => op_load1 _ hp hty (h w hC)) hk
theorem wq_loadB {W : World} (hw : Region.wanted ⟨dst, .load lt p, ty, pos, af, g⟩ (yielded ops a.tmps) = true) (hp : a.eval p = .pointer (some ⟨b, o, none⟩)) (hty : scalarTy P lt = true)
    (h : W.cell? ⟨b, o, none⟩ = some v) (hk : wpQuiet P ops (fun w' => Below W.heap.size W w') Q rest (a.put dst v)) : wpQuiet P ops (fun w' => Below W.heap.size W w') Q (⟨dst, .load lt p, ty, pos, af, g⟩ :: rest) a :=
  wq_load1 hw hp hty (fun _ hC => below_cell hC h) hk
end
/-! ### the same order, its operations written out -/
inductive SegO where
  | q (l : List Oper)
  | e (o : Oper)
def cat : List SegO → List Oper
  | [] => []
  | .q l :: r => l ++ cat r
  | .e o :: r => o :: cat r
def idx : Nat → List SegO → List Seg
  | _, [] => []
  | k, .q l :: r => .q (List.range' k l.length) :: idx (k + l.length) r
  | k, .e _ :: r => .e k :: idx (k + 1) r
section
variable {P : Program} {Q : Exit → Act → World → Prop} {S : World → Prop}
def wpCuts (P : Program) (ops : Array Oper) (Q : Exit → Act → World → Prop) (S : World → Prop) (L : Act → World → Prop) : List SegO → Act → World → Prop
  | [], a, w => L a w
  | .q l :: r, a, w => S w ∧ wpQuiet P ops S (fun a' => wpCuts P ops Q S L r a' w) l a
  | .e o :: r, a, w => wpList P ops (Exit.then (fun a' w' => S w' ∧ wpCuts P ops Q S L r a' w') Q) [o] a w
theorem fm_range (pre mid post : List Oper) : (List.range' pre.length mid.length).filterMap ((pre ++ (mid ++ post)).toArray[·]?) = mid := by
  induction mid generalizing pre with
  | nil => rfl
  | cons o mid ih =>
    have h := ih (pre ++ [o])
    rw [List.length_append, List.length_singleton, List.append_assoc, List.singleton_append] at h
    rw [List.length_cons, List.range'_succ, List.filterMap_cons]
    have e : ((pre ++ (o :: mid ++ post)).toArray[pre.length]?) = some o := by simp
    rw [e]
    exact congrArg (o :: ·) h
theorem wpQuiet_mono {ops : Array Oper} {C : World → Prop} {Q Q' : Act → Prop} (hQ : ∀ a, Q a → Q' a) : ∀ (l : List Oper) (a : Act), wpQuiet P ops C Q l a → wpQuiet P ops C Q' l a
  | [], a, h => hQ a h
  | o :: r, a, h => by
    unfold wpQuiet at h ⊢
    split
    · rename_i hw
      rw [if_pos hw] at h
      obtain ⟨v, hv, hk⟩ := h
      exact ⟨v, hv, wpQuiet_mono hQ r _ hk⟩
    · rename_i hw
      rw [if_neg hw] at h
      exact wpQuiet_mono hQ r _ h
theorem wpList_one {ops : Array Oper} {K K' : Act → World → Prop} (hK : ∀ a w, K a w → K' a w) {o : Oper} {a : Act} {w : World} (h : wpList P ops (Exit.then K Q) [o] a w) : wpList P ops (Exit.then K' Q) [o] a w := by
  unfold wpList at h ⊢
  split
  · rename_i hw
    rw [if_pos hw] at h
    rcases h with h | h
    · refine .inl ?_
      have h1 : o.wp P a w K' (Exit.then K Q) := Oper.wp_mono (K := K) hK h
      have h2 : o.wp P a w K' Q := oper_wp_then (K := K) h1
      exact oper_then_wp h2
    · exact .inr h
  · rename_i hw
    rw [if_neg hw] at h
    exact hK _ _ h
theorem wpSegs_of_cuts {L : Act → World → Prop} (l tail : List Oper) : ∀ (segs : List SegO) (pre : List Oper) (a : Act) (w : World), pre ++ (cat segs ++ tail) = l → wpCuts P l.toArray Q S L segs a w → wpSegs P l.toArray Q S L (idx pre.length segs) a w
  | [], _, _, _, _, h => h
  | .e o :: r, pre, a, w, hl, h => by
    have e : [pre.length].filterMap (l.toArray[·]?) = [o] := by rw [← hl]; simp [cat]
    unfold wpSegs idx
    simp only [e]
    unfold wpCuts at h
    refine wpList_one (fun a' w' h' => ⟨h'.1, ?_⟩) h
    have := wpSegs_of_cuts l tail r (pre ++ [o]) a' w' (by rw [← hl]; simp [cat]) h'.2
    simpa using this
  | .q m :: r, pre, a, w, hl, h => by
    have e : (List.range' pre.length m.length).filterMap (l.toArray[·]?) = m := by
      have := fm_range pre m (cat r ++ tail)
      rw [← hl]
      simpa [cat] using this
    unfold wpSegs idx
    simp only [e]
    unfold wpCuts at h
    refine ⟨h.1, wpQuiet_mono (fun a' h' => ?_) _ _ h.2⟩
    have := wpSegs_of_cuts l tail r (pre ++ m) a' w (by rw [← hl]; simp [cat]) h'
    simpa using this
/-- ONE WALK FOR EVERY ORDER of a region: the segments' operations, and then the tail's -/
theorem wp_region_cuts {id : Nat} {a : Act} {w : World} {l : List Oper} (segs : List SegO) (tail : List Oper) (hl : cat segs ++ tail = l) (S : World → Prop) (hm : P.follows .mixedOrders = true) (hB : segsOk l.toArray (cat segs).length (idx 0 segs) = true)
    (hQ : ∀ c a d v w, Q (.panic c) (a.put d v) w → Q (.panic c) a w) (h : wpCuts P l.toArray Q S (fun a' w' => wpList P l.toArray Q tail a' w') segs a w.drew) : (Code.region id l.toArray true).wp P Q a w := by
  refine wp_region_segs (cat segs).length (idx 0 segs) S hm hB hQ ?_
  have e : l.drop (cat segs).length = tail := by rw [← hl]; simp
  rw [e]
  exact wpSegs_of_cuts l tail segs [] a w.drew (by simpa using hl) h
theorem cut_q {ops : Array Oper} {L : Act → World → Prop} {l : List Oper} {r : List SegO} {a : Act} {w : World} (hS : S w) (h : wpQuiet P ops S (fun a' => wpCuts P ops Q S L r a' w) l a) : wpCuts P ops Q S L (.q l :: r) a w := ⟨hS, h⟩
theorem cut_e {ops : Array Oper} {L : Act → World → Prop} {o : Oper} {r : List SegO} {a : Act} {w : World} (h : wpList P ops (Exit.then (fun a' w' => S w' ∧ wpCuts P ops Q S L r a' w') Q) [o] a w) : wpCuts P ops Q S L (.e o :: r) a w := h
theorem cut_end {ops : Array Oper} {L : Act → World → Prop} {a : Act} {w : World} (h : L a w) : wpCuts P ops Q S L [] a w := h
end
end Go.Proofs.YtkjpcjccddggoaaGreat
