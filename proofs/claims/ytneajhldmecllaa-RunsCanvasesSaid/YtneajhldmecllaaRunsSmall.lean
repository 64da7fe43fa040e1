import Derived.Test.YtneajhldmecllaaLib
namespace Go.Proofs.Ytneajhldmecllaa
open Go.RowKit

set_option maxHeartbeats 400000 in
theorem sizes_any (x y : Int) (w : World) :
    Calls Try.prog 49 #[.int .i64 x, .int .i64 y] w fun e w' => e = .returned (.bool (decide (1 ≤ x ∧ x ≤ 4 ∧ 1 ≤ y ∧ y ≤ 4))) ∧ w = w' := by
  by_cases h1 : 1 ≤ x <;> by_cases h2 : x ≤ 4 <;> by_cases h3 : 1 ≤ y <;> by_cases h4 : y ≤ 4
  all_goals first
    | (exfalso; omega)
    | (go_enter Try.func49, Try.ntmps49
       go_wp2
       go_ret
       simp [*])

set_option maxHeartbeats 400000 in
theorem may_any (x y : Int) (w : World) :
    Calls Try.prog 57 #[.agg #[.int .i64 x, .int .i64 y]] w fun e w' => e = .returned (.bool (decide (1 ≤ x ∧ x ≤ 4 ∧ 1 ≤ y ∧ y ≤ 4))) ∧ Below w.heap.size w w' := by
  by_cases h1 : 1 ≤ x <;> by_cases h2 : x ≤ 4 <;> by_cases h3 : 1 ≤ y <;> by_cases h4 : y ≤ 4
  all_goals first
    | (exfalso; omega)
    | (go_enter Try.func57, Try.ntmps57
       go_wp2
       go_ret
       refine ⟨by simp [*], (Below.refl _ _).alloc (Nat.le_refl _) _⟩)

/-- a canvas as a value: its sizes, and the slice of its tiles -/
abbrev canV (x y : Int) (s : Value) : Value := .agg #[.int .i64 x, .int .i64 y, s]

/-- may there be a canvas of these sizes, and so many tiles? -/
def canOk (x y : Int) (n : Nat) : Bool := decide (1 ≤ x ∧ x ≤ 4 ∧ 1 ≤ y ∧ y ≤ 4 ∧ (n : Int) = x * y)

theorem mul_le (x y : Int) (h1 : 1 ≤ x) (h2 : x ≤ 4) (h3 : 1 ≤ y) (h4 : y ≤ 4) : 1 ≤ x * y ∧ x * y ≤ 16 := by
  have e1 : x = 1 ∨ x = 2 ∨ x = 3 ∨ x = 4 := by omega
  rcases e1 with rfl | rfl | rfl | rfl <;> omega

set_option maxHeartbeats 400000 in
theorem check_no1 (x y : Int) (a : Option Addr) (n c : Nat) (w : World) (h : ¬ (1 ≤ x ∧ x ≤ 4 ∧ 1 ≤ y ∧ y ≤ 4)) :
    Calls Try.prog 40 #[canV x y (.slice a n c)] w fun e w' => e = .returned (.int .i64 150) ∧ Below w.heap.size w w' := by
  have H : decide (1 ≤ x ∧ x ≤ 4 ∧ 1 ≤ y ∧ y ≤ 4) = false := by simpa using h
  clear h
  go_enter Try.func40, Try.ntmps40
  go_wp2_with (go_at_call 57; refine (may_any _ _ _).mono ?_; rintro e w' ⟨rfl, hb⟩)
  go_ret
  refine ⟨rfl, ?_⟩
  repeat (first | assumption | exact Below.refl _ _ | refine below_dN ?_ _ | refine Below.alloc ?_ (by first | exact Nat.le_refl _ | omega | (simp; done) | (simp; omega)) _ | refine Below.setCell ?_ (by first | exact Nat.le_refl _ | omega | (simp; done) | (simp; omega)) _ | refine Below.drew ?_ | refine Below.trans ?_ (Below.mono (by assumption) (by first | exact Nat.le_refl _ | omega | (simp; done) | (simp; omega))))

set_option maxHeartbeats 400000 in
theorem check_no2 (x y : Int) (a : Option Addr) (n c : Nat) (w : World) (h1 : 1 ≤ x) (h2 : x ≤ 4) (h3 : 1 ≤ y) (h4 : y ≤ 4) (h : ¬ (n : Int) = x * y) :
    Calls Try.prog 40 #[canV x y (.slice a n c)] w fun e w' => e = .returned (.int .i64 150) ∧ Below w.heap.size w w' := by
  have H : decide (1 ≤ x ∧ x ≤ 4 ∧ 1 ≤ y ∧ y ≤ 4) = true := by simpa using ⟨h1, h2, h3, h4⟩
  have hm := mul_le x y h1 h2 h3 h4
  have hw : IntKind.i64.wrap (x * y) = x * y := IntWalk.i64_in _ (by omega)
  have h' : ((n : Int) != x * y) = true := by simpa using h
  go_enter Try.func40, Try.ntmps40
  go_wp2_with (go_at_call 57; refine (may_any _ _ _).mono ?_; rintro e w' ⟨rfl, hb⟩; obtain ⟨hc, hf⟩ := bcell hb)
  go_ret
  refine ⟨rfl, ?_⟩
  repeat (first | assumption | exact Below.refl _ _ | refine below_dN ?_ _ | refine Below.alloc ?_ (by first | exact Nat.le_refl _ | omega | (simp; done) | (simp; omega)) _ | refine Below.setCell ?_ (by first | exact Nat.le_refl _ | omega | (simp; done) | (simp; omega)) _ | refine Below.drew ?_ | refine Below.trans ?_ (Below.mono (by assumption) (by first | exact Nat.le_refl _ | omega | (simp; done) | (simp; omega))))

set_option maxHeartbeats 400000 in
theorem check_yes (x y : Int) (a : Option Addr) (n c : Nat) (w : World) (h1 : 1 ≤ x) (h2 : x ≤ 4) (h3 : 1 ≤ y) (h4 : y ≤ 4) (h : (n : Int) = x * y) :
    Calls Try.prog 40 #[canV x y (.slice a n c)] w fun e w' => e = .returned (.int .i64 0) ∧ Below w.heap.size w w' := by
  have H : decide (1 ≤ x ∧ x ≤ 4 ∧ 1 ≤ y ∧ y ≤ 4) = true := by simpa using ⟨h1, h2, h3, h4⟩
  have hm := mul_le x y h1 h2 h3 h4
  have hw : IntKind.i64.wrap (x * y) = x * y := IntWalk.i64_in _ (by omega)
  have h' : ((n : Int) != x * y) = false := by simpa using h
  clear h
  go_enter Try.func40, Try.ntmps40
  go_wp2_with (go_at_call 57; refine (may_any _ _ _).mono ?_; rintro e w' ⟨rfl, hb⟩; obtain ⟨hc, hf⟩ := bcell hb)
  go_ret
  refine ⟨rfl, ?_⟩
  repeat (first | assumption | exact Below.refl _ _ | refine below_dN ?_ _ | refine Below.alloc ?_ (by first | exact Nat.le_refl _ | omega | (simp; done) | (simp; omega)) _ | refine Below.setCell ?_ (by first | exact Nat.le_refl _ | omega | (simp; done) | (simp; omega)) _ | refine Below.drew ?_ | refine Below.trans ?_ (Below.mono (by assumption) (by first | exact Nat.le_refl _ | omega | (simp; done) | (simp; omega))))

set_option maxHeartbeats 400000 in
theorem right_any (x y : Int) (a : Option Addr) (n c : Nat) (w : World) :
    Calls Try.prog 22 #[canV x y (.slice a n c)] w fun e w' => e = .returned (.bool (canOk x y n)) ∧ Below w.heap.size w w' := by
  by_cases h : 1 ≤ x ∧ x ≤ 4 ∧ 1 ≤ y ∧ y ≤ 4
  · have H : decide (1 ≤ x ∧ x ≤ 4 ∧ 1 ≤ y ∧ y ≤ 4) = true := by simpa using h
    have hk : canOk x y n = ((n : Int) == x * y) := by unfold canOk; rw [Bool.eq_iff_iff]; simp; omega
    have hm := mul_le x y h.1 h.2.1 h.2.2.1 h.2.2.2
    have hw : IntKind.i64.wrap (x * y) = x * y := IntWalk.i64_in _ (by omega)
    clear h
    go_enter Try.func22, Try.ntmps22
    go_wp2_with (go_at_call 49; refine (sizes_any _ _ _).mono ?_; rintro e w' ⟨rfl, rfl⟩)
    go_ret
    refine ⟨by rw [hk]; rfl, ?_⟩
    repeat (first | assumption | exact Below.refl _ _ | refine below_dN ?_ _ | refine Below.alloc ?_ (by first | exact Nat.le_refl _ | omega | (simp; done) | (simp; omega)) _ | refine Below.setCell ?_ (by first | exact Nat.le_refl _ | omega | (simp; done) | (simp; omega)) _ | refine Below.drew ?_ | refine Below.trans ?_ (Below.mono (by assumption) (by first | exact Nat.le_refl _ | omega | (simp; done) | (simp; omega))))
  · have H : decide (1 ≤ x ∧ x ≤ 4 ∧ 1 ≤ y ∧ y ≤ 4) = false := by simpa using h
    have hk : canOk x y n = false := by unfold canOk; simp at h ⊢; omega
    clear h
    go_enter Try.func22, Try.ntmps22
    go_wp2_with (go_at_call 49; refine (sizes_any _ _ _).mono ?_; rintro e w' ⟨rfl, rfl⟩)
    go_ret
    refine ⟨by rw [hk]; rfl, ?_⟩
    repeat (first | assumption | exact Below.refl _ _ | refine below_dN ?_ _ | refine Below.alloc ?_ (by first | exact Nat.le_refl _ | omega | (simp; done) | (simp; omega)) _ | refine Below.setCell ?_ (by first | exact Nat.le_refl _ | omega | (simp; done) | (simp; omega)) _ | refine Below.drew ?_ | refine Below.trans ?_ (Below.mono (by assumption) (by first | exact Nat.le_refl _ | omega | (simp; done) | (simp; omega))))

end Go.Proofs.Ytneajhldmecllaa
