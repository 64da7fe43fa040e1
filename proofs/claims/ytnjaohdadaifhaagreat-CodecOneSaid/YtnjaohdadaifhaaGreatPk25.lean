/- Walks by data and names, part 25: Loops over the elements of a slice. -/
import Derived.Test.YtnjaohdadaifhaaGreatPk22
import Derived.Test.YtnjaohdadaifhaaGreatPk24
namespace Go.Proofs.YtnjaohdadaifhaaGreat
set_option maxRecDepth 20000
open Go.RowKit
section
variable {P : Program} {cx : Cx} {s : St} {Q : VE → St → Prop}
abbrev eachV {β : Type} (cx : Cx) (I : Nat → β → St) (n : Nat) (T : Nat → β → Prop) (i : Nat) (y : β) (Q : VE → St → Prop) : VE → St → Prop :=
  loopV cx (fun z : Nat × β => I z.1 z.2) (fun z => z.1 ≤ n ∧ T z.1 z.2) (fun z => n - z.1) (i, y) Q
theorem vw_each {ι β : Type} (t : Tmp) (l : List ι) (fD : ι → List D) (I : Nat → β → St) (T : Nat → β → Prop) (y0 : β) {c : Code} {cc f : Bool} (h0 : Sub cx s (I 0 y0)) (hT : T 0 y0)
    (step : ∀ i y x, T i y → i < l.length → l[i]? = some x → (l.map fD)[((i : Nat) : Int).toNat]? = some (fD x) → (i : Int) < ((l.map fD).length : Int) → (l.map fD).length = l.length → l.length ≤ 9223372036854775807 → l.drop i = x :: l.drop (i + 1) → VW P cx c (I i y) (eachV cx I l.length T i y Q))
    (last : ∀ y, T l.length y → ¬ ((l.length : Int) < ((l.map fD).length : Int)) → (l.map fD).length = l.length → VW P cx c (I l.length y) (eachV cx I l.length T l.length y Q))
    (hs : ∀ i y, lookT t (I i y).tm = some (.d (.sl cc f (l.map fD))) := by exact fun _ _ => rfl) : VW P cx (.loop c) s Q := by
  refine vw_loop (fun z : Nat × β => I z.1 z.2) (fun z => z.1 ≤ l.length ∧ T z.1 z.2) (fun z => l.length - z.1) (0, y0) h0 ⟨Nat.zero_le _, hT⟩ ?_
  rintro ⟨i, y⟩ ⟨hi, hT⟩
  refine vw_len t (hs i y) fun hlen => ?_
  simp only [List.length_map] at hlen
  simp only at hi hT
  rcases Nat.lt_or_ge i l.length with h | h
  · have hx : l[i]? = some l[i] := List.getElem?_eq_getElem h
    exact step i y l[i] hT h hx (by simp [hx]) (by simpa using h) (List.length_map _) hlen (List.drop_eq_getElem_cons h)
  · obtain rfl : i = l.length := by omega
    exact last y hT (by simp) (List.length_map _)
theorem nx_each {β : Type} {I : Nat → β → St} {n : Nat} {T : Nat → β → Prop} {i : Nat} {y : β} (y' : β) (hi : i < n) (hT : T (i + 1) y') (h : Sub cx s (I (i + 1) y')) : eachV cx I n T i y Q .normal s :=
  ⟨(i + 1, y'), ⟨hi, hT⟩, by simp only; omega, h⟩
end
end Go.Proofs.YtnjaohdadaifhaaGreat
