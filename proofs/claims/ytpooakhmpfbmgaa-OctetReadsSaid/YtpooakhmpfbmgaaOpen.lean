/- Arguments that are opened: slices of plain elements, by the form's own reading. -/
import Derived.Test.YtpooakhmpfbmgaaBytes
import Derived.ProofKit
import Derived.OpenShut
import Derived.Deep.Slices
import Derived.Lib.SmallJoins
namespace Go.Proofs.Ytpooakhmpfbmgaa
open Go.RowKit

section
variable {H : Type} {enc : TypeId × Value → H} {P : Program} {w : World} {base : Nat} {spare : Nat → Bool} {held : Bool}

theorem list_of_fn {α : Type} (n : Nat) (p : Nat → α → Prop) (h : ∀ i, i < n → ∃ y, p i y) : ∃ l : List α, l.length = n ∧ ∀ i (hi : i < l.length), p i l[i] := by
  induction n with
  | zero => exact ⟨[], rfl, fun i hi => by simp at hi⟩
  | succ n ih =>
    obtain ⟨l, hl, hp⟩ := ih (fun i hi => h i (by omega))
    obtain ⟨y, hy⟩ := h n (by omega)
    refine ⟨l ++ [y], by simp [hl], fun i hi => ?_⟩
    by_cases e : i < l.length
    · rw [List.getElem_append_left e]; exact hp i e
    · obtain rfl : i = l.length := by simp at hi; omega
      simp
      rw [hl]; exact hy

theorem flatMap_get {α : Type} (f : α → List Value) (size : Nat) (hf : ∀ y, (f y).length = size) (l : List α) (i j : Nat) (hi : i < l.length) (hj : j < size) : (l.flatMap f)[i * size + j]? = (f l[i])[j]? := by
  induction l generalizing i with
  | nil => simp at hi
  | cons x l ih =>
    rw [List.flatMap_cons]
    cases i with
    | zero => rw [Nat.zero_mul, Nat.zero_add, List.getElem?_append_left (by rw [hf]; exact hj)]; rfl
    | succ i =>
      rw [List.getElem?_append_right (by rw [hf, Nat.add_mul]; omega), hf, show (i + 1) * size + j - size = i * size + j from by rw [Nat.add_mul]; omega]
      exact ih i (by simpa using hi)
theorem flatMap_len {α : Type} (f : α → List Value) (size : Nat) (hf : ∀ y, (f y).length = size) (l : List α) : (l.flatMap f).length = l.length * size := by
  induction l with
  | nil => simp
  | cons x l ih => rw [List.flatMap_cons, List.length_append, ih, hf, List.length_cons, Nat.add_mul]; omega

/-- a slice of plain elements (of a known number of cells each) that came in -/
theorem rows_of_trod {α : Type} (f : α → List Value) (size : Nat) {t e : TypeId} {fuel : Nat} {a : Option Addr} {n c : Nat} {x : DataW H × List MemPlace} (hpos : 0 < size) (hf : ∀ y, (f y).length = size) (hsz : P.cellsOf e = size) (ht : P.underlying t = some (.slice e))
    (hel : ∀ (fuel : Nat) (cs : List Value) (x : DataW H × List MemPlace), DataW.trod enc P w base spare held fuel e cs = some x → ∃ y, cs = f y) (h : DataW.trod enc P w base spare held fuel t [.slice a n c] = some x) :
    ∃ l : List α, l.length = n ∧ IsSl w (.slice a n c) n (l.flatMap f) := by
  rcases Deep.open_slice ht h with ⟨hcs, _⟩ | ⟨ad, len, cap, m, k, D, Pl, hcs, hb, hl, hm, hmm, _, hx⟩
  · simp only [List.cons.injEq, and_true, Value.slice.injEq] at hcs
    obtain ⟨rfl, rfl, rfl⟩ := hcs
    exact ⟨[], rfl, IsSl.nil w⟩
  · simp only [List.cons.injEq, and_true, Value.slice.injEq] at hcs
    obtain ⟨rfl, rfl, rfl⟩ := hcs
    have hnm : n ≤ m := by rw [hmm]; split <;> omega
    rw [hsz] at hx
    obtain ⟨l, hl1, hp⟩ := list_of_fn n (fun i y => ∀ j v, (f y)[j]? = some v → w.cell? (ad.add (i * size + j)) = some v) (fun i hi => by
      obtain ⟨cs', h1, h2⟩ := hx i (by omega)
      obtain ⟨y, rfl⟩ := hel _ _ _ h2
      obtain ⟨_, h3, h4⟩ := World.cells?_some h1
      refine ⟨y, fun j v hv => ?_⟩
      have hj := (List.getElem?_eq_some_iff.1 hv).1
      rw [← Deep.add_add, h4 j (by omega)]
      exact hv)
    refine ⟨l, hl1, some ad, c, rfl, hl, hm, by simp, fun j u hu => ?_⟩
    have hj := (List.getElem?_eq_some_iff.1 hu).1
    rw [flatMap_len f size hf] at hj
    have hd : j / size < l.length := Nat.div_lt_of_lt_mul (by rwa [Nat.mul_comm])
    have hmd : j % size < size := Nat.mod_lt _ hpos
    have hjj : j / size * size + j % size = j := by rw [Nat.mul_comm]; exact Nat.div_add_mod j size
    have hc0 := hp (j / size) hd (j % size) u (by rw [← flatMap_get f size hf l _ _ hd hmd, hjj]; exact hu)
    rw [hjj] at hc0
    have hl0 : 0 < l.length := Nat.lt_of_le_of_lt (Nat.zero_le _) hd
    obtain ⟨v0, hv0⟩ : ∃ v0, (f l[0])[0]? = some v0 := ⟨_, List.getElem?_eq_getElem (l := f l[0]) (by rw [hf]; exact hpos)⟩
    have hc1 := hp 0 (by omega) 0 v0 hv0
    simp only [Nat.zero_mul, Nat.add_zero] at hc1
    have hs := World.cell?_spot hc1
    obtain ⟨b, o, sp⟩ := ad
    simp only [Addr.add, if_pos] at hs
    subst hs
    refine ⟨b, o, rfl, ?_⟩
    have hadd : (⟨b, o, none⟩ : Addr).add j = ⟨b, o + j, none⟩ := by unfold Addr.add; split <;> simp_all
    rw [hadd] at hc0
    exact hc0

theorem byte_of_trod {fuel : Nat} {cs : List Value} {x : DataW H × List MemPlace} {e : TypeId} (he : P.underlying e = some (.int .u8)) (h : DataW.trod enc P w base spare held fuel e cs = some x) : ∃ y : UInt8, cs = [vb y] := by
  obtain ⟨n, rfl, _, hw⟩ := DataW.trod_int he h
  have hb := bounds_u8 hw
  refine ⟨UInt8.ofNat n.toNat, ?_⟩
  simp only [vb, List.cons.injEq, and_true, Value.int.injEq, true_and]
  simp
  omega

theorem flatMap_one {α : Type} (f : α → Value) (l : List α) : l.flatMap (fun y => [f y]) = l.map f := by
  induction l with
  | nil => rfl
  | cons x l ih => simp [List.flatMap_cons, ih]

end

theorem bytes_of_trod {H : Type} {enc : TypeId × Value → H} {w : World} {base : Nat} {spare : Nat → Bool} {held : Bool} {fuel : Nat} {a : Option Addr} {n c : Nat} {x : DataW H × List MemPlace} (h : DataW.trod enc Try.prog w base spare held fuel 22 [.slice a n c] = some x) :
    ∃ l : List UInt8, l.length = n ∧ Bytes w (.slice a n c) l := by
  obtain ⟨l, hl, hs⟩ := rows_of_trod (fun y : UInt8 => [vb y]) 1 (by decide) (fun _ => rfl) (by kernel_rfl) Try.underlying22 (fun _ _ _ h => byte_of_trod Try.underlying5 h) h
  refine ⟨l, hl, ?_⟩
  rw [flatMap_one] at hs
  subst hl
  exact hs

end Go.Proofs.Ytpooakhmpfbmgaa
