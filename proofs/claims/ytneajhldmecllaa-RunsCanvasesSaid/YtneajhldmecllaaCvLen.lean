/- gessolaw10: how long what Apply reads is. -/
import Derived.Test.YtneajhldmecllaaCvLaw
namespace Go.Proofs.Ytneajhldmecllaa
open Go.RowKit
theorem readTs_cnt (Zf : List (List Col) → List Col) : ∀ (m : Nat) (A : List (List Col)) (l : List UInt8) (A' : List (List Col)) (n : Nat), readTs Zf m A l = some (A', n) → A'.length = A.length + m
  | 0, A, l, A', n, h => by
    simp [readTs] at h
    obtain ⟨rfl, rfl⟩ := h
    rfl
  | m + 1, A, [], A', n, h => by simp [readTs] at h
  | m + 1, A, b :: l, A', n, h => by
    unfold readTs at h
    split at h
    · obtain ⟨p, hp, he⟩ := Option.map_eq_some_iff.1 h
      have := readTs_cnt Zf m _ _ p.1 p.2 hp
      injection he with h1 h2
      rw [← h1, this]; simp; omega
    · split at h
      · cases h
      · split at h
        · cases h
        · obtain ⟨p, hp, he⟩ := Option.map_eq_some_iff.1 h
          have := readTs_cnt Zf m _ _ p.1 p.2 hp
          injection he with h1 h2
          rw [← h1, this]; simp; omega
theorem readapp_in (a b : Nat) (O : List (List Col)) (l : List UInt8) (x y : Nat) (M : List (List Col)) (k : Nat) (h : readApp a b O l = some (x, y, M, k)) : M.length = a * b ∧ 2 ≤ k := by
  match l, h with
  | [], h => simp [readApp] at h
  | [_], h => simp [readApp] at h
  | u :: v :: rest, h =>
    rw [readApp_cons] at h
    split at h
    · obtain ⟨p, hp, he⟩ := Option.map_eq_some_iff.1 h
      have := readTs_cnt _ _ _ _ p.1 p.2 hp
      simp only [Prod.mk.injEq] at he
      obtain ⟨_, _, h3, h4⟩ := he
      rw [← h3, ← h4, this]; simp
    · cases h
theorem canOk_mul {x y : Int} {n : Nat} (h : canOk x y n = true) : x.toNat * y.toNat ≤ 16 := by
  obtain ⟨a, b, rfl, rfl, g1, g2, g3, g4, g5⟩ := canOk_nat h
  simp only [Int.toNat_natCast]
  exact Nat.mul_le_mul g2 g4
theorem appOf_len {x y : Int} {O : List (List Col)} {l : List UInt8} {dx dy dn de : Int} {dA : List (List Col)} (h : appOf (canOk x y O.length) (readApp x.toNat y.toNat O l) = (dx, dy, dA, dn, de)) : dA.length ≤ 16 := by
  cases h1 : canOk x y O.length <;> cases h2 : readApp x.toNat y.toNat O l <;> rw [h1, h2] at h
  · simp only [appOf, Prod.mk.injEq] at h; rw [← h.2.2.1]; simp
  · simp only [appOf, Prod.mk.injEq] at h; rw [← h.2.2.1]; simp
  · simp only [appOf, Prod.mk.injEq] at h; rw [← h.2.2.1]; simp
  · rename_i q
    obtain ⟨q1, q2, q3, q4⟩ := q
    simp only [appOf, Prod.mk.injEq] at h
    rw [← h.2.2.1, (readapp_in _ _ _ _ _ _ _ _ h2).1]
    exact canOk_mul h1
theorem readapp_pos (a b : Nat) (O : List (List Col)) (l : List UInt8) (x y : Nat) (M : List (List Col)) (k : Nat) (h : readApp a b O l = some (x, y, M, k)) : 2 ≤ k := (readapp_in _ _ _ _ _ _ _ _ h).2

end Go.Proofs.Ytneajhldmecllaa
