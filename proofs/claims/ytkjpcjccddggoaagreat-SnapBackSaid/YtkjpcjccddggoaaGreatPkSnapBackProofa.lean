/- What SnapBackProof asks for, part a: Layer 21, plain: a right pile into which a piece is put is right. Layer 21, plain: piles of some of the pieces of bytes. Layer 21, plain: a snapshot's bytes are read as it, and bytes that are read are those of what was read. -/
import Derived.Test.YtkjpcjccddggoaaGreatPk50
import Derived.Test.YtkjpcjccddggoaaGreatPk49
import Derived.Test.YtkjpcjccddggoaaGreatPk51
import Derived.Test.YtkjpcjccddggoaaGreatPk48
import Derived.Test.YtkjpcjccddggoaaGreatPk44
import Derived.Test.YtkjpcjccddggoaaGreatPk52
namespace Go.Proofs.YtkjpcjccddggoaaGreat
theorem piB_of {q : Pi} (a1 : numB q.snap = true) (a2 : 1 ≤ q.many) (a3 : q.many ≤ 64) (a4 : (q.parts.length : Int) = q.many) (a5 : anyI (wrongB q.many) 0 q.parts = false) (a6 : 0 ≤ idxP comeB 0 q.parts) : piB q = true := by
  simp [piB, a1, a2, a3, a4, a5, a6]
end Go.Proofs.YtkjpcjccddggoaaGreat

namespace Go.Proofs.YtkjpcjccddggoaaGreat
def chk (W : List UInt8) (j : Nat) : List UInt8 := (W.drop (256 * j)).take 256
def partsS (W : List UInt8) (S : Nat → Bool) : List (List UInt8) := (List.range (manyN W)).map fun j => if S j then chk W j else []
def pileS (n : Int) (W : List UInt8) (S : Nat → Bool) : Pi := if (List.range (manyN W)).any S then ⟨n, manyN W, partsS W S⟩ else .zero
def addS (S : Nat → Bool) (j : Nat) : Nat → Bool := fun i => S i || decide (i = j)
theorem chk_len {W : List UInt8} {j : Nat} : (chk W j).length = min 256 (W.length - 256 * j) := by simp [chk]
theorem chk_pos {W : List UInt8} {j : Nat} (h : j < manyN W) : 0 < (chk W j).length := by
  rw [chk_len]; unfold manyN at h; omega
theorem partB_at {W : List UInt8} {j : Nat} (h : j < manyN W) : partB j (manyN W) (chk W j).length = true := by
  have hm : manyN W = (W.length + 255) / 256 := rfl
  rw [chk_len]
  simp only [partB, Bool.and_eq_true, Bool.or_eq_true, decide_eq_true_eq]
  by_cases h4 : 256 ≤ W.length - 256 * j
  · exact .inl (by omega)
  · exact .inr ⟨⟨by omega, by omega⟩, by omega⟩
theorem pcB_at {n : Int} {W : List UInt8} {j : Nat} (hn : numB n = true) (hm : manyN W ≤ 64) (h : j < manyN W) : pcB (pcAt n W j) = true := by
  have hp := partB_at h
  show (numB n && decide (1 ≤ (manyN W : Int)) && decide ((manyN W : Int) ≤ 64) && decide (0 ≤ (j : Int)) && decide ((j : Int) < manyN W) && partB j (manyN W) (chk W j).length) = true
  rw [hp, hn]
  simp only [Bool.true_and, Bool.and_true, Bool.and_eq_true, decide_eq_true_eq]
  omega
theorem partsS_len {W : List UInt8} {S : Nat → Bool} : (partsS W S).length = manyN W := by simp [partsS]
theorem partsS_get {W : List UInt8} {S : Nat → Bool} {j : Nat} (h : j < manyN W) : (partsS W S)[j]? = some (if S j then chk W j else []) := by simp [partsS, h]
theorem partsS_set {W : List UInt8} {S : Nat → Bool} {j : Nat} : (partsS W S).set j (chk W j) = partsS W (addS S j) := by
  apply List.ext_getElem?
  intro i
  rw [List.getElem?_set, partsS_len]
  by_cases hi : i < manyN W
  · rw [partsS_get hi, partsS_get hi]
    by_cases h : j = i
    · subst h; simp [addS, hi]
    · rw [if_neg h]
      have : i ≠ j := fun e => h e.symm
      simp [addS, this]
  · have h1 : (partsS W S)[i]? = none := List.getElem?_eq_none (by rw [partsS_len]; omega)
    have h2 : (partsS W (addS S j))[i]? = none := List.getElem?_eq_none (by rw [partsS_len]; omega)
    rw [h1, h2]
    by_cases h : j = i
    · subst h; rw [if_pos rfl, if_neg hi]
    · rw [if_neg h]
theorem any_get {m : Nat} {S : Nat → Bool} : (List.range m).any S = true ↔ ∃ j, j < m ∧ S j = true := by simp
theorem any_no {m : Nat} {S : Nat → Bool} (h : ¬ (List.range m).any S = true) {j : Nat} (hj : j < m) : S j = false := by
  cases e : S j
  · rfl
  · exact (h (any_get.2 ⟨j, hj, e⟩)).elim
theorem partsS_no {W : List UInt8} {S : Nat → Bool} (h : ¬ (List.range (manyN W)).any S = true) : partsS W S = List.replicate (manyN W) [] := by
  apply List.ext_getElem?
  intro i
  by_cases hi : i < manyN W
  · rw [partsS_get hi, any_no h hi]; simp [hi]
  · rw [List.getElem?_eq_none (by rw [partsS_len]; omega), List.getElem?_eq_none (by simp; omega)]
theorem any_add {m : Nat} {S : Nat → Bool} {j : Nat} (hj : j < m) : (List.range m).any (addS S j) = true := any_get.2 ⟨j, hj, by simp [addS]⟩
theorem put_S {n : Int} {W : List UInt8} {S : Nat → Bool} {j : Nat} (hn : numB n = true) (hm : manyN W ≤ 64) (hj : j < manyN W) (hS : S j = false) :
    putOk (pileS n W S) (pcAt n W j) = true ∧ (pileS n W S).put (pcAt n W j) = pileS n W (addS S j) := by
  have hp := pcB_at hn hm hj
  have hb : (pcAt n W j).b = chk W j := rfl
  have hn1 : 1 ≤ n := by simp only [numB, Bool.and_eq_true, decide_eq_true_eq] at hn; exact hn.1
  by_cases ha : (List.range (manyN W)).any S = true
  · have e : pileS n W S = ⟨n, manyN W, partsS W S⟩ := by simp only [pileS, ha, if_true]
    have hg : (partsS W S)[j]? = some [] := by rw [partsS_get hj, hS]; rfl
    refine ⟨?_, ?_⟩
    · rw [e]
      simp only [putOk, hp, Bool.true_and, Bool.or_eq_true, Bool.and_eq_true, decide_eq_true_eq]
      exact .inr ⟨⟨rfl, rfl⟩, hg⟩
    · rw [e]
      have : ¬ n < (pcAt n W j).snap := Int.lt_irrefl n
      unfold Pi.put
      rw [if_neg this]
      unfold pileS
      rw [if_pos (any_add hj)]
      simp only [Pi.set, hb]
      rw [show (pcAt n W j).idx.toNat = j from rfl, partsS_set]
  · have e : pileS n W S = .zero := by simp only [pileS, ha]; rfl
    have h0 : (Pi.zero).snap < (pcAt n W j).snap := by show (0 : Int) < n; omega
    refine ⟨?_, ?_⟩
    · rw [e]
      simp only [putOk, hp, Bool.true_and, Bool.or_eq_true, decide_eq_true_eq]
      exact .inl h0
    · rw [e]
      unfold Pi.put
      rw [if_pos h0]
      unfold pileS
      rw [if_pos (any_add hj)]
      simp only [Pi.set, Pi.fresh, hb]
      rw [show (pcAt n W j).idx.toNat = j from rfl, show (pcAt n W j).many.toNat = manyN W from rfl, ← partsS_no ha, partsS_set]
      rfl
theorem anyI_of {p : Nat → List UInt8 → Bool} : ∀ {l : List (List UInt8)} {i : Nat}, (∀ j x, l[j]? = some x → p (i + j) x = false) → anyI p i l = false
  | [], _, _ => rfl
  | x :: l, i, h => by
    simp only [anyI, Bool.or_eq_false_iff]
    refine ⟨by have := h 0 x rfl; simpa using this, anyI_of fun j y hy => ?_⟩
    have := h (j + 1) y (by simpa using hy)
    rwa [show i + (j + 1) = i + 1 + j by omega] at this
theorem idx_any {p : List UInt8 → Bool} : ∀ (l : List (List UInt8)) (i : Nat), l.any p = decide (0 ≤ idxP p i l)
  | [], i => by simp [idxP]
  | x :: l, i => by
    rw [List.any_cons, idx_any l (i + 1), idxP_cons]
    cases h : p x <;> simp
theorem idx_get {p : List UInt8 → Bool} : ∀ {l : List (List UInt8)} {i : Nat}, 0 ≤ idxP p i l → ∃ j x, idxP p i l = ((i + j : Nat) : Int) ∧ l[j]? = some x ∧ p x = true
  | [], i, h => by simp [idxP] at h
  | x :: l, i, h => by
    rw [idxP_cons] at h ⊢
    cases hp : p x with
    | true => exact ⟨0, x, by simp, rfl, hp⟩
    | false =>
      rw [hp] at h
      simp only [Bool.false_eq_true, if_false] at h ⊢
      obtain ⟨j, y, h1, h2, h3⟩ := idx_get h
      exact ⟨j + 1, y, by rw [h1]; congr 1; omega, by simpa using h2, h3⟩
theorem piB_S {n : Int} {W : List UInt8} {S : Nat → Bool} (hn : numB n = true) (hm : manyN W ≤ 64) : piB (pileS n W S) = true := by
  unfold pileS
  split
  · rename_i ha
    obtain ⟨j, hj, hS⟩ := any_get.1 ha
    refine piB_of hn (by simp only; omega) (by simp only; omega) (by simp only [partsS_len]) (anyI_of fun i x hx => ?_) ?_
    · have hi : i < manyN W := by have := (List.getElem?_eq_some_iff.1 hx).1; rwa [partsS_len] at this
      rw [partsS_get hi] at hx
      cases hx
      rw [Nat.zero_add]
      by_cases h : S i = true
      · simp only [h, if_true, wrongB]
        rw [partB_at hi]; simp
      · simp [h, wrongB, comeB]
    · have := any_idx (partsS W S) 0
      have h2 : (partsS W S).any comeB = true := List.any_eq_true.2 ⟨chk W j, List.mem_of_getElem? (i := j) (by rw [partsS_get hj, hS]; rfl), by simp only [comeB, decide_eq_true_eq]; exact chk_pos hj⟩
      rw [h2] at this
      exact of_decide_eq_true this.symm
  · rfl
theorem no_S {n : Int} {W : List UInt8} {S : Nat → Bool} {j : Nat} (hn : numB n = true) (hm : manyN W ≤ 64) (hj : j < manyN W) (hS : S j = true) : putOk (pileS n W S) (pcAt n W j) = false ∧ putErr (pileS n W S) (pcAt n W j) = 5 := by
  have hp := pcB_at hn hm hj
  have ha : (List.range (manyN W)).any S = true := any_get.2 ⟨j, hj, hS⟩
  have e : pileS n W S = ⟨n, manyN W, partsS W S⟩ := by simp only [pileS, ha, if_true]
  have hg : (partsS W S)[j]? = some (chk W j) := by rw [partsS_get hj, hS]; rfl
  have hc := chk_pos hj
  rw [e]
  refine ⟨?_, ?_⟩
  · simp only [putOk, hp, Bool.true_and]
    have h1 : ¬ n < (pcAt n W j).snap := Int.lt_irrefl n
    have h2 : ¬ (partsS W S)[(pcAt n W j).idx.toNat]? = some [] := by
      rw [show (pcAt n W j).idx.toNat = j from rfl, hg]
      intro h; cases h' : chk W j
      · rw [h'] at hc; simp at hc
      · rw [h'] at h; simp at h
    simp [h1, h2]
  · unfold putErr
    have q1 : ¬ (pcAt n W j).snap < (⟨n, manyN W, partsS W S⟩ : Pi).snap := Int.lt_irrefl n
    have q2 : ¬ ((pcAt n W j).snap = (⟨n, manyN W, partsS W S⟩ : Pi).snap ∧ (pcAt n W j).many ≠ (⟨n, manyN W, partsS W S⟩ : Pi).many) := fun h => h.2 rfl
    rw [if_neg (by rw [hp]; simp), if_neg q1, if_neg q2]
theorem chunks (W : List UInt8) : ∀ m, ((List.range m).map (chk W)).flatten = W.take (256 * m)
  | 0 => by simp
  | m + 1 => by
    rw [List.range_succ, List.map_append, List.flatten_append, chunks W m, show 256 * (m + 1) = 256 * m + 256 by omega, List.take_add]
    simp [chk]
theorem ends_S {n : Int} {W : List UInt8} {S : Nat → Bool} (hn : numB n = true) (hm : manyN W ≤ 64) (h0 : 0 < W.length) :
    ((∀ j, j < manyN W → S j = true) ∧ nextE (pileS n W S) = (0, false) ∧ wholeE (pileS n W S) = (W, true)) ∨
    (∃ j, j < manyN W ∧ S j = false ∧ nextE (pileS n W S) = ((j : Int), true) ∧ wholeE (pileS n W S) = ([], false)) := by
  have hb := piB_S (n := n) (W := W) (S := S) hn hm
  have hM : 0 < manyN W := by unfold manyN; omega
  by_cases ha : (List.range (manyN W)).any S = true
  · have e : pileS n W S = ⟨n, manyN W, partsS W S⟩ := by simp only [pileS, ha, if_true]
    rw [e] at hb ⊢
    have hm0 : ¬ ((manyN W : Int) = 0) := by omega
    by_cases hi : 0 ≤ idxP ncB 0 (partsS W S)
    · obtain ⟨j, x, h1, h2, h3⟩ := idx_get hi
      have hj : j < manyN W := by have := (List.getElem?_eq_some_iff.1 h2).1; rwa [partsS_len] at this
      rw [partsS_get hj] at h2
      rw [Nat.zero_add] at h1
      have hSj : S j = false := by
        cases hS : S j with
        | false => rfl
        | true =>
          rw [hS] at h2
          cases h2
          simp only [if_true, ncB, comeB, Bool.not_eq_true', decide_eq_false_iff_not] at h3
          exact (h3 (chk_pos hj)).elim
      have hne : nextE ⟨n, manyN W, partsS W S⟩ = ((j : Int), true) := by
        unfold nextE
        rw [if_neg (by rw [hb]; simp), if_neg hm0]
        simp only [h1]
        refine Prod.ext ?_ ?_
        · simp only; omega
        · simp only [decide_eq_true_eq]; omega
      exact .inr ⟨j, hj, hSj, hne, by unfold wholeE; rw [if_pos (.inl (by rw [hne]))]⟩
    · have hall : ∀ j, j < manyN W → S j = true := fun j hj => by
        cases hS : S j with
        | true => rfl
        | false =>
          have := idx_any (p := ncB) (partsS W S) 0
          have h2 : (partsS W S).any ncB = true := List.any_eq_true.2 ⟨[], List.mem_of_getElem? (i := j) (by rw [partsS_get hj, hS]; rfl), by simp [ncB, comeB]⟩
          rw [h2] at this
          exact (hi (of_decide_eq_true this.symm)).elim
      have hne : nextE ⟨n, manyN W, partsS W S⟩ = (0, false) := by
        unfold nextE
        rw [if_neg (by rw [hb]; simp), if_neg hm0]
        refine Prod.ext ?_ ?_
        · simp only; omega
        · simp only [decide_eq_false_iff_not]; exact hi
      have hp : partsS W S = (List.range (manyN W)).map (chk W) := by
        unfold partsS
        apply List.map_congr_left
        intro j hj
        rw [List.mem_range] at hj
        rw [hall j hj]; rfl
      refine .inl ⟨hall, hne, ?_⟩
      unfold wholeE
      rw [if_neg (by rw [hne, hb]; simp)]
      simp only [hp, chunks]
      rw [List.take_of_length_le (by unfold manyN; omega)]
  · have e : pileS n W S = .zero := by simp only [pileS, ha]; rfl
    have hne : nextE .zero = (0, true) := by decide
    rw [e]
    exact .inr ⟨0, hM, any_no ha hM, hne, by unfold wholeE; rw [if_pos (.inl (by rw [hne]))]⟩
/-- all of them, one behind the other, on a pile of some -/
theorem putsS_all {n : Int} {W : List UInt8} (hn : numB n = true) (hm : manyN W ≤ 64) : ∀ (m i : Nat) (S : Nat → Bool) (k : Nat), i + m = manyN W →
    putsP (pileS n W S, k) ((List.range' i m).map (pcAt n W)) = (pileS n W (fun j => S j || decide (i ≤ j ∧ j < i + m)), k + ((List.range' i m).filter S).length)
  | 0, i, S, k, _ => by
    simp only [List.range'_zero, List.map_nil, putsP, List.filter_nil, List.length_nil, Nat.add_zero]
    congr 2
    funext j
    have : ¬ (i ≤ j ∧ j < i) := by omega
    simp [this]
  | m + 1, i, S, k, h => by
    have hi : i < manyN W := by omega
    rw [List.range'_succ, List.map_cons, putsP]
    cases hS : S i with
    | true =>
      obtain ⟨h1, _⟩ := no_S hn hm hi hS
      rw [if_neg (by rw [h1]; simp), putsS_all hn hm m (i + 1) S (k + 1) (by omega), List.filter_cons_of_pos hS]
      refine Prod.ext ?_ (by simp only [List.length_cons]; omega)
      simp only
      congr 1
      funext j
      by_cases hj : j = i
      · subst hj; simp [hS]
      · have : (i + 1 ≤ j ∧ j < i + 1 + m) ↔ (i ≤ j ∧ j < i + (m + 1)) := by omega
        simp only [this]
    | false =>
      obtain ⟨h1, h2⟩ := put_S hn hm hi hS
      rw [if_pos h1, h2, putsS_all hn hm m (i + 1) (addS S i) k (by omega), List.filter_cons_of_neg (by rw [hS]; simp)]
      refine Prod.ext ?_ ?_
      · simp only
        congr 1
        funext j
        by_cases hj : j = i
        · subst hj; simp [addS]
        · have : (i + 1 ≤ j ∧ j < i + 1 + m) ↔ (i ≤ j ∧ j < i + (m + 1)) := by omega
          simp only [addS, hj, this, decide_false, Bool.or_false]
      · simp only
        congr 2
        apply List.filter_congr
        intro j hj
        rw [List.mem_range'_1] at hj
        have : j ≠ i := by omega
        simp [addS, this]
end Go.Proofs.YtkjpcjccddggoaaGreat

namespace Go.Proofs.YtkjpcjccddggoaaGreat
theorem lay_id {X : List UInt8} (h : X.length = 8) : layN 8 (numN X) = X := by have := layN_numN X; rwa [h] at this
theorem cut_on (X : List UInt8) (m : Nat) : X.take m ++ (X.take (m + 8)).drop m = X.take (m + 8) := by
  have h := List.take_append_drop m (X.take (m + 8))
  rwa [List.take_take, show min m (m + 8) = m by omega] at h
theorem vc_own {X : List UInt8} (h : 64 ≤ X.length) : vcBy (vcOf X) = X.take 64 := by
  simp only [vcBy, vcOf]
  rw [lay_id (X := X.take 8) (by simp; omega), lay_id (X := (X.take 16).drop 8) (by simp; omega), lay_id (X := (X.take 24).drop 16) (by simp; omega), lay_id (X := (X.take 32).drop 24) (by simp; omega),
    lay_id (X := (X.take 40).drop 32) (by simp; omega), lay_id (X := (X.take 48).drop 40) (by simp; omega), lay_id (X := (X.take 56).drop 48) (by simp; omega), lay_id (X := (X.take 64).drop 56) (by simp; omega)]
  rw [cut_on X 8, cut_on X 16, cut_on X 24, cut_on X 32, cut_on X 40, cut_on X 48, cut_on X 56]
theorem drop8 {L : List UInt8} (h : L.length = 8) (a b : Nat) (ha : 8 ≤ a) : (L.take b).drop a = [] := List.drop_eq_nil_of_le (by simp; omega)
theorem drop8' {L : List UInt8} (h : L.length = 8) (a : Nat) (ha : 8 ≤ a) : L.drop a = [] := List.drop_eq_nil_of_le (by omega)
theorem vc_by {v : Vc} (h : vcB v = true) (M : List UInt8) : vcOf (vcBy v ++ M) = v := by
  obtain ⟨h0, h1, h2, h3, h4, h5, h6, h7, h8⟩ := (vcB_iff v).1 h
  obtain ⟨n0, n1, n2, n3, n4, n5, n6, n7, n8⟩ := v
  simp only at h0 h1 h2 h3 h4 h5 h6 h7 h8
  subst h0
  have e : ∀ n, n ≤ 4611686018427387904 → numN (layN 8 n) = n := fun n hn => numN_layN 8 n (by omega)
  have l : ∀ n, (layN 8 n).length = 8 := fun n => layN_len 8 n
  have e1 := e n1 h1
  have e2 := e n2 h2
  have e3 := e n3 h3
  have e4 := e n4 h4
  have e5 := e n5 h5
  have e6 := e n6 h6
  have e7 := e n7 h7
  have e8 := e n8 h8
  have l1 := l n1
  have l2 := l n2
  have l3 := l n3
  have l4 := l n4
  have l5 := l n5
  have l6 := l n6
  have l7 := l n7
  have l8 := l n8
  simp only [vcBy, vcOf, Vc.mk.injEq, true_and]
  generalize layN 8 n1 = L1 at *
  generalize layN 8 n2 = L2 at *
  generalize layN 8 n3 = L3 at *
  generalize layN 8 n4 = L4 at *
  generalize layN 8 n5 = L5 at *
  generalize layN 8 n6 = L6 at *
  generalize layN 8 n7 = L7 at *
  generalize layN 8 n8 = L8 at *
  clear e l h
  refine ⟨?_, ?_, ?_, ?_, ?_, ?_, ?_, ?_⟩
  · rw [← e1]; congr 1; simp [l1]
  · rw [← e2]; congr 1; simp [List.take_append, l1, l2]
  · rw [← e3]; congr 1; simp [List.take_append, List.drop_append, l1, l2, l3, drop8 l1]
  · rw [← e4]; congr 1; simp [List.take_append, List.drop_append, l1, l2, l3, l4, drop8 l1, drop8 l2]
  · rw [← e5]; congr 1; simp [List.take_append, List.drop_append, l1, l2, l3, l4, l5, drop8 l1, drop8 l2, drop8 l3]
  · rw [← e6]; congr 1; simp [List.take_append, List.drop_append, l1, l2, l3, l4, l5, l6, drop8 l1, drop8 l2, drop8 l3, drop8 l4]
  · rw [← e7]; congr 1; simp [List.take_append, List.drop_append, l1, l2, l3, l4, l5, l6, l7, drop8 l1, drop8 l2, drop8 l3, drop8 l4, drop8 l5]
  · rw [← e8]; congr 1; simp [List.take_append, List.drop_append, l1, l2, l3, l4, l5, l6, l7, l8, drop8 l1, drop8 l2, drop8 l3, drop8 l4, drop8 l5, drop8 l6]
theorem sn_own {b : List UInt8} {s : Sn} (h : snRaw b = some s) : snBy s = b := by
  unfold snRaw at h
  split at h
  · cases h
  rename_i h80
  split at h
  · cases h
  split at h
  · cases h
  · rename_i x y A k hr
    split at h
    · rename_i hk
      cases h
      obtain ⟨_, _, _, _, h5, _, h7⟩ := readcan_own _ _ _ _ _ hr
      simp only [snBy]
      have c8 : b.take 8 ++ (b.take 16).drop 8 = b.take 16 := cut_on b 8
      rw [lay_id (X := b.take 8) (by simp; omega), lay_id (X := (b.take 16).drop 8) (by simp; omega), vc_own (X := b.drop 16) (by simp; omega), c8]
      rw [show ((x : Int)).toNat = x from rfl, show ((y : Int)).toNat = y from rfl, h7, List.take_of_length_le (l := b.drop 80) (by rw [List.length_drop]; omega)]
      have e1 := List.take_append_drop 16 b
      have e2 := List.take_append_drop 64 (b.drop 16)
      rw [List.drop_drop, show 16 + 64 = 80 from rfl] at e2
      rw [List.append_assoc, e2, e1]
    · cases h
theorem rd_own {b : List UInt8} {s : Sn} (h : snRd b = some s) : snRaw b = some s ∧ snB s = true := by
  unfold snRd at h
  cases hq : snRaw b with
  | none => rw [hq] at h; cases h
  | some t =>
    rw [hq] at h
    simp only at h
    split at h
    · rename_i ht; cases h; exact ⟨rfl, ht⟩
    · cases h
theorem snBy_len {s : Sn} (h64 : All64 s.c.L) (hb : snB s = true) : 80 ≤ (snBy s).length ∧ (snBy s).length ≤ 5282 := by
  obtain ⟨h1, h2, h3, h4⟩ := snB_in hb
  obtain ⟨a, b, e1, e2, a1, a2, b1, b2, e3⟩ := canOk_nat h1
  have hcl := canvasB_le s.c.x.toNat s.c.y.toNat s.c.L h64
  have hn : s.c.L.length ≤ 16 := by have := Nat.mul_le_mul a2 b2; omega
  have hvl : (vcBy s.v).length = 64 := by simp [vcBy, layN_len]
  simp only [snBy, List.length_append, layN_len, hvl]
  omega
theorem rd_by {s : Sn} (h64 : All64 s.c.L) (hb : snB s = true) : snRd (snBy s) = some s := by
  obtain ⟨h1, h2, h3, h4⟩ := snB_in hb
  obtain ⟨a, b, e1, e2, a1, a2, b1, b2, e3⟩ := canOk_nat h1
  have hl := snBy_len h64 hb
  have hvl : (vcBy s.v).length = 64 := by simp [vcBy, layN_len]
  have l1 : (layN 8 s.f).length = 8 := layN_len _ _
  have l2 : (layN 8 s.s).length = 8 := layN_len _ _
  have q1 : numN (layN 8 s.f) = s.f := numN_layN 8 _ (by omega)
  have q2 : numN (layN 8 s.s) = s.s := numN_layN 8 _ (by omega)
  have k1 : (snBy s).take 8 = layN 8 s.f := by simp [snBy, l1]
  have k2 : ((snBy s).take 16).drop 8 = layN 8 s.s := by simp [snBy, List.take_append, l1, l2]
  have k3 : (snBy s).drop 16 = vcBy s.v ++ canvasB s.c.x.toNat s.c.y.toNat s.c.L := by simp [snBy, List.drop_append, l1, l2]
  have k4 : (snBy s).drop 80 = canvasB s.c.x.toNat s.c.y.toNat s.c.L := by simp [snBy, List.drop_append, l1, l2, hvl, drop8' l1, drop8' l2]
  have hlen : (snBy s).length = 80 + (canvasB s.c.x.toNat s.c.y.toNat s.c.L).length := by simp [snBy, l1, l2, hvl]; omega
  have hx : s.c.x.toNat = a := by omega
  have hy : s.c.y.toNat = b := by omega
  have hrc := readcan_enc a b s.c.L ⟨a1, a2⟩ ⟨b1, b2⟩ e3 h64 []
  rw [List.append_nil] at hrc
  rw [hx, hy] at k3 k4 hlen
  have hraw : snRaw (snBy s) = some s := by
    unfold snRaw
    rw [if_neg (by omega), k3, vc_by h4, if_neg (by rw [h4]; simp), k4, hrc]
    simp only
    rw [if_pos (by omega), k1, k2, q1, q2]
    obtain ⟨⟨x, y, A⟩, f, e, v⟩ := s
    simp only at e1 e2
    rw [e1, e2]
  unfold snRd
  rw [hraw]
  simp only [hb, if_true]
end Go.Proofs.YtkjpcjccddggoaaGreat

namespace Go.Proofs.YtkjpcjccddggoaaGreat
open Go.RowKit
set_option maxRecDepth 10000
set_option maxHeartbeats 4000000
def Sn.own (x : Sn) : Sn := { x with c := { x.c with L := x.c.L.take 17 } }
theorem some_own {x : Sn} (h : All64 x.c.L) : All64 x.own.c.L ∧ x.own.c.L.length ≤ 17 := ⟨fun T hT => h T (List.mem_of_mem_take hT), by simp [Sn.own]; omega⟩
theorem lsome_v (x : Sn) (h : All64 x.c.L) : VP Tryz.prog 16 [.agg (snD x)] (· = .ret (.agg (snN x.own))) := by
  have hc : cutL none (some (min ((x.c.L.map tlD).length : Int) 17)) (x.c.L.map tlD) = (x.c.L.take 17).map tlD := cutM tlD x.c.L 17
  obtain ⟨h1, h2⟩ := some_own h
  have cc := cloneT_v (x.c.L.take 17) h1 (by simp; omega)
  have hz : ∀ T ∈ x.c.L.map tlD, T.length = 256 := by
    intro T hT
    obtain ⟨S, hS, rfl⟩ := List.mem_map.1 hT
    exact tlD_len (h S hS)
  simp only [Sn.own, snN, snD]
  refine vp_of Tryz.func16 rfl Tryz.ntmps16 rfl Tryz.results16 fun B => ?_
  repeat' (first | rw [hc] | fail | refine nzl ?_ | refine nzd ?_ | ((first | with_reducible refine vl_id ?_ | with_reducible refine vd_id ?_); first | refine cz (cc) ?_) | refine nzo ?_ | refine nc ?_ ?_ | (with_reducible intro _ <;> (try (exfalso; omega))) | refine vs_eqnil ?_ | refine vs_nenil ?_ | (refine nd ?_ ?_ <;> intro hg <;> (first | (exfalso; (try simp only [decide_eq_true_eq, decide_eq_false_iff_not] at hg); omega) | rw [hg])) | fail)
  all_goals first | rfl | trace_state
end Go.Proofs.YtkjpcjccddggoaaGreat

namespace Go.Proofs.YtkjpcjccddggoaaGreat
open Go.RowKit
set_option maxRecDepth 10000
set_option maxHeartbeats 4000000
instance dlss_pcNb (l : List Pc) : DLss (l.map pcN) (l.map pcD) := dlss_map l _ _ (fun _ => inferInstance) (fun _ => rfl)
theorem gather_all {n : Int} {W : List UInt8} (hn : numB n = true) (hm : manyN W ≤ 64) (h0 : 0 < W.length) : ∃ P, putsE .zero (pcsOf n W) = (P, 0, 0) ∧ wholeE P = (W, true) ∧ P.parts.flatten = W := by
  have h := putsS_all (n := n) (W := W) hn hm (manyN W) 0 (fun _ => false) 0 (by omega)
  have e0 : pileS n W (fun _ => false) = .zero := by
    unfold pileS
    rw [if_neg]
    rw [any_get]; rintro ⟨j, _, h⟩; cases h
  have el : (List.range' 0 (manyN W)).map (pcAt n W) = pcsOf n W := by rw [pcsOf, List.range_eq_range']
  rw [e0, el] at h
  have hf : ((List.range' 0 (manyN W)).filter fun _ => false) = [] := List.filter_eq_nil_iff.2 (by simp)
  rw [hf] at h
  generalize hP : pileS n W (fun j => (fun _ => false) j || decide (0 ≤ j ∧ j < 0 + manyN W)) = P at h
  have hw : wholeE P = (W, true) := by
    subst hP
    rcases ends_S (n := n) (W := W) (S := fun j => (fun _ => false) j || decide (0 ≤ j ∧ j < 0 + manyN W)) hn hm h0 with ⟨_, _, h⟩ | ⟨j, hj, hS, _⟩
    · exact h
    · simp at hS; omega
  refine ⟨P, ?_, hw, ?_⟩
  · have : piB .zero = true := by decide
    unfold putsE
    rw [if_neg (by rw [this]; simp), h]
    rfl
  · unfold wholeE at hw
    split at hw
    · cases hw
    · exact (Prod.ext_iff.1 hw).1
theorem back_law (x : Sn) (s : Int) (z : List UInt8) (hx : All64 x.c.L) (hs : 0 ≤ s ∧ s ≤ 18446744073709551615) : VP Tryz.prog 5 [.agg (snD x), u64D s, bsD z] (· = .ret (.lit (.bool true))) := by
  have cx := lsome_v x hx
  obtain ⟨ha, la⟩ := some_own hx
  generalize x.own = a at *
  have hzc := cutT z 6000
  rw [show ((6000 : Nat) : Int) = 6000 from rfl] at hzc
  have hzl := byD_len z
  have hcl : (z.take 6000).length ≤ 6000 := by simp; omega
  have c1 := snread_v (z.take 6000) (by omega)
  have c2 := equal_v (z.take 6000) (z.take 6000)
  have h64 : ∀ s, snRd (z.take 6000) = some s → snBy s = z.take 6000 ∧ snB s = true ∧ All64 s.c.L ∧ s.c.L.length ≤ 16 := fun s hs => ⟨sn_own (rd_own hs).1, (rd_own hs).2, snRaw_64 (rd_own hs).1⟩
  have c3 := snbytes_v a ha (by omega)
  have c4 := sncheck_v a ha
  have c5 := snsame_v a a ha ha
  rw [decide_eq_true rfl] at c2 c5
  generalize snRd (z.take 6000) = o at *
  generalize z.take 6000 = c at *
  have hcl2 := byD_len c
  simp only [snA] at c1
  cases hr : snB a with
  | false =>
    rw [hr] at c3 c4
    simp only [Bool.false_eq_true, if_false, show byD ([] : List UInt8) = [] from rfl] at c3 c4
    cases o with
    | none =>
      simp only [Option.getD_none, Option.isSome_none, Bool.false_eq_true, if_false] at c1
      simp only [snD, snN, Sn.zero, Vc.zero, List.map_nil] at *
      refine vp_of Tryz.func5 rfl Tryz.ntmps5 rfl Tryz.results5 fun B => ?_
      repeat' (first | rw [hzc] | fail | refine nzl ?_ | refine nzd ?_ | ((first | with_reducible refine vl_id ?_ | with_reducible refine vd_id ?_); first | refine cz (wakes_v) ?_ | refine cz (cx) ?_ | refine cz (c1) ?_ | refine cz (c2) ?_ | refine cz (c3) ?_ | refine cz (c4) ?_) | refine nzo ?_ | refine nc ?_ ?_ | (with_reducible intro _ <;> (try (exfalso; omega))) | refine vs_eqnil ?_ | refine vs_nenil ?_ | (refine nd ?_ ?_ <;> intro hg <;> (first | (exfalso; (try simp only [decide_eq_true_eq, decide_eq_false_iff_not] at hg); omega) | rw [hg])) | fail)
      all_goals first | rfl | exact absurd hg (by simp) | (rename_i hz; exact absurd rfl hz) | (exfalso; omega) | (rename_i hz; exact absurd hz (by decide)) | trace_state
    | some t =>
      obtain ⟨e1, e2, ht, lt⟩ := h64 t rfl
      have c6 := snbytes_v t ht (by omega)
      have c7 := sncheck_v t ht
      rw [e2] at c6 c7
      rw [e1] at c6
      simp only [Option.getD_some, Option.isSome_some, if_true] at c1 c6 c7
      simp only [snD, snN] at *
      refine vp_of Tryz.func5 rfl Tryz.ntmps5 rfl Tryz.results5 fun B => ?_
      repeat' (first | rw [hzc] | fail | refine nzl ?_ | refine nzd ?_ | ((first | with_reducible refine vl_id ?_ | with_reducible refine vd_id ?_); first | refine cz (wakes_v) ?_ | refine cz (cx) ?_ | refine cz (c1) ?_ | refine cz (c2) ?_ | refine cz (c3) ?_ | refine cz (c4) ?_ | refine cz (c6) ?_ | refine cz (c7) ?_) | refine nzo ?_ | refine nc ?_ ?_ | (with_reducible intro _ <;> (try (exfalso; omega))) | refine vs_eqnil ?_ | refine vs_nenil ?_ | (refine nd ?_ ?_ <;> intro hg <;> (first | (exfalso; (try simp only [decide_eq_true_eq, decide_eq_false_iff_not] at hg); omega) | rw [hg])) | fail)
      all_goals first | rfl | exact absurd hg (by simp) | (rename_i hz; exact absurd rfl hz) | (exfalso; omega) | (rename_i hz; exact absurd hz (by decide)) | trace_state
  | true =>
    have hW := snBy_len ha hr
    have hrd := rd_by ha hr
    have hmn : manyN (snBy a) ≤ 64 := by unfold manyN; omega
    have hn : numB (1 + s % 4611686018427387904) = true := by simp only [numB, Bool.and_eq_true, decide_eq_true_eq]; omega
    obtain ⟨P, g1, g2, g3⟩ := gather_all (n := 1 + s % 4611686018427387904) hn hmn (by omega)
    have c6 := cut_v (1 + s % 4611686018427387904) (snBy a) (by omega)
    have hcut : cutE (1 + s % 4611686018427387904) (snBy a) = (pcsOf (1 + s % 4611686018427387904) (snBy a), 0) := by
      unfold cutE
      rw [if_neg (by rw [hn, decide_eq_true (show 0 < (snBy a).length by omega)]; simp), if_neg (by rw [decide_eq_true hmn]; simp)]
    rw [hcut] at c6
    have hpl : (pcsOf (1 + s % 4611686018427387904) (snBy a)).length ≤ 64 := by simpa [pcsOf] using hmn
    have c7 := puts_v .zero (pcsOf (1 + s % 4611686018427387904) (snBy a)) (by intro y hy; cases hy) (by omega)
    rw [g1] at c7
    have c8 := whole_v P (by rw [sumL, g3]; omega)
    rw [g2] at c8
    have c9 := snread_v (snBy a) (by omega)
    rw [hrd] at c9
    have c10 := equal_v (snBy a) (snBy a)
    rw [decide_eq_true rfl] at c10
    rw [hr] at c3 c4
    simp only [if_true, Option.isSome_some, snA, Option.getD_some] at c3 c4 c9
    rw [show piD .zero = [u64D 0, i64D 0, .sl false false []] from rfl] at c7
    generalize pcsOf (1 + s % 4611686018427387904) (snBy a) = L at *
    generalize snBy a = W at *
    have hwr : IntKind.u64.wrap (1 + s.tmod 4611686018427387904) = 1 + s % 4611686018427387904 := by
      rw [Int.tmod_eq_emod_of_nonneg hs.1, wrap_in (by simp only [inK]; omega)]
    generalize 1 + s % 4611686018427387904 = n at *
    simp only [snD, snN, piD, piM] at *
    cases o with
    | none =>
      simp only [Option.getD_none, Option.isSome_none, Bool.false_eq_true, if_false] at c1
      simp only [Sn.zero, Vc.zero, List.map_nil] at c1
      refine vp_of Tryz.func5 rfl Tryz.ntmps5 rfl Tryz.results5 fun B => ?_
      repeat' (first | rw [hzc] | rw [hwr] | fail | refine nzl ?_ | refine nzd ?_ | ((first | with_reducible refine vl_id ?_ | with_reducible refine vd_id ?_); first | refine cz (wakes_v) ?_ | refine cz (cx) ?_ | refine cz (c1) ?_ | refine cz (c2) ?_ | refine cz (c3) ?_ | refine cz (c4) ?_ | refine cz (c5) ?_ | refine cz (c6) ?_ | refine cz (c7) ?_ | refine cz (c8) ?_ | refine cz (c9) ?_ | refine cz (c10) ?_) | refine nzo ?_ | refine nc ?_ ?_ | (with_reducible intro _ <;> (try (exfalso; omega))) | refine vs_eqnil ?_ | refine vs_nenil ?_ | (refine nd ?_ ?_ <;> intro hg <;> (first | (exfalso; (try simp only [decide_eq_true_eq, decide_eq_false_iff_not] at hg); omega) | rw [hg])) | fail)
      all_goals first | rfl | exact absurd hg (by simp) | (rename_i hz; exact absurd rfl hz) | (exfalso; omega) | (rename_i hz; exact absurd hz (by decide)) | trace_state
    | some t =>
      obtain ⟨e1, e2, ht, lt⟩ := h64 t rfl
      have c11 := snbytes_v t ht (by omega)
      have c12 := sncheck_v t ht
      rw [e2] at c11 c12
      rw [e1] at c11
      simp only [Option.getD_some, Option.isSome_some, if_true] at c1 c11 c12
      simp only [snD] at c1 c11 c12
      refine vp_of Tryz.func5 rfl Tryz.ntmps5 rfl Tryz.results5 fun B => ?_
      repeat' (first | rw [hzc] | rw [hwr] | fail | refine nzl ?_ | refine nzd ?_ | ((first | with_reducible refine vl_id ?_ | with_reducible refine vd_id ?_); first | refine cz (wakes_v) ?_ | refine cz (cx) ?_ | refine cz (c1) ?_ | refine cz (c2) ?_ | refine cz (c3) ?_ | refine cz (c4) ?_ | refine cz (c5) ?_ | refine cz (c6) ?_ | refine cz (c7) ?_ | refine cz (c8) ?_ | refine cz (c9) ?_ | refine cz (c10) ?_ | refine cz (c11) ?_ | refine cz (c12) ?_) | refine nzo ?_ | refine nc ?_ ?_ | (with_reducible intro _ <;> (try (exfalso; omega))) | refine vs_eqnil ?_ | refine vs_nenil ?_ | (refine nd ?_ ?_ <;> intro hg <;> (first | (exfalso; (try simp only [decide_eq_true_eq, decide_eq_false_iff_not] at hg); omega) | rw [hg])) | fail)
      all_goals first | rfl | exact absurd hg (by simp) | (rename_i hz; exact absurd rfl hz) | (exfalso; omega) | (rename_i hz; exact absurd hz (by decide)) | trace_state
end Go.Proofs.YtkjpcjccddggoaaGreat

namespace Go.Proofs.YtkjpcjccddggoaaGreat
theorem back_law2 (x : Sn) (hx : All64 x.c.L) (s : Int) (hs : 0 ≤ s ∧ s ≤ 18446744073709551615) (z : List UInt8) : VP Tryz.prog 5 [.agg (snD x), u64D s, bsD z] (· = .ret (.lit (.bool true))) := back_law x s z hx hs
end Go.Proofs.YtkjpcjccddggoaaGreat
