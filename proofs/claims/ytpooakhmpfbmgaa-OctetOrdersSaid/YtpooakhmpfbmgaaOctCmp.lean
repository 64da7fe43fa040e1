/- slices.Compare of bytes; numbers of one width stand in the order of their bytes. -/
import Derived.Test.YtpooakhmpfbmgaaOctWakes
namespace Go.Proofs.Ytpooakhmpfbmgaa
open Go.RowKit

def cmp1 (x y : UInt8) : Int := if x.toNat < y.toNat then -1 else if y.toNat < x.toNat then 1 else 0
def cmpB : List UInt8 → List UInt8 → Int
  | [], [] => 0
  | [], _ :: _ => -1
  | _ :: _, [] => 1
  | x :: l, y :: m => if cmp1 x y = 0 then cmpB l m else cmp1 x y

theorem numB_cons (x : UInt8) (l : List UInt8) : numB (x :: l) = x.toNat * 256 ^ l.length + numB l := by
  have key : ∀ (l : List UInt8) (a : Nat), l.foldl (fun n x => 256 * n + x.toNat) a = a * 256 ^ l.length + numB l := by
    intro l
    induction l with
    | nil => intro a; simp [numB]
    | cons y l ih =>
      intro a
      have h1 := ih (256 * a + y.toNat)
      have h2 := ih (256 * 0 + y.toNat)
      simp only [List.foldl_cons, List.length_cons, numB] at h1 h2 ⊢
      rw [h1, h2, Nat.pow_succ]
      rw [Nat.add_mul, Nat.add_mul, Nat.mul_comm 256 a, Nat.mul_assoc, Nat.mul_comm 256 (256 ^ l.length)]
      omega
  have := key l (256 * 0 + x.toNat)
  simpa [numB] using this

theorem cmp_num : ∀ (l m : List UInt8), l.length = m.length → ((cmpB l m < 0 ↔ numB l < numB m) ∧ (cmpB l m = 0 ↔ numB l = numB m))
  | [], [], _ => by simp [cmpB, numB]
  | [], _ :: _, h => by simp at h
  | _ :: _, [], h => by simp at h
  | x :: l, y :: m, h => by
    have hl : l.length = m.length := by simpa using h
    obtain ⟨i1, i2⟩ := cmp_num l m hl
    have b1 := numB_lt l
    have b2 := numB_lt m
    rw [numB_cons, numB_cons, hl] at *
    generalize 256 ^ m.length = P at *
    unfold cmpB cmp1
    by_cases h1 : x.toNat < y.toNat
    · have := Nat.mul_le_mul_right P (show x.toNat + 1 ≤ y.toNat from h1)
      rw [Nat.add_mul] at this
      simp only [h1, if_true]
      constructor
      · simp; omega
      · simp; omega
    · by_cases h2 : y.toNat < x.toNat
      · have := Nat.mul_le_mul_right P (show y.toNat + 1 ≤ x.toNat from h2)
        rw [Nat.add_mul] at this
        simp only [h1, h2, if_true, if_false]
        constructor
        · simp; omega
        · simp; omega
      · have e : x.toNat = y.toNat := by omega
        rw [if_neg h1, if_neg h2, if_pos rfl, e]
        constructor
        · rw [i1]; omega
        · rw [i2]; omega

set_option maxHeartbeats 400000 in
theorem isnan_any (x : UInt8) (w : World) : Calls Try.prog 72 #[vb x] w fun e w' => e = .returned (.bool false) ∧ w = w' := by
  go_enter Try.func72, Try.ntmps72
  go_wp2
  go_ret
  simp

set_option maxHeartbeats 400000 in
theorem ccmp_any (x y : UInt8) (w : World) : Calls Try.prog 66 #[vb x, vb y] w fun e w' => e = .returned (.int .i64 (cmp1 x y)) ∧ w = w' := by
  unfold cmp1
  by_cases h1 : x.toNat < y.toNat
  · have q1 : decide (x.toNat < y.toNat) = true := by simp [h1]
    rw [if_pos h1]
    clear h1
    go_enter Try.func66, Try.ntmps66
    go_wp2_with (go_at_call 72; refine (isnan_any _ _).mono ?_; rintro e W1 ⟨rfl, rfl⟩)
    go_ret
    exact ⟨rfl, rfl⟩
  · have q1 : decide (x.toNat < y.toNat) = false := by simp; omega
    rw [if_neg h1]
    by_cases h2 : y.toNat < x.toNat
    · have q2 : decide (y.toNat < x.toNat) = true := by simp [h2]
      rw [if_pos h2]
      clear h1 h2
      go_enter Try.func66, Try.ntmps66
      go_wp2_with (go_at_call 72; refine (isnan_any _ _).mono ?_; rintro e W1 ⟨rfl, rfl⟩)
      go_ret
      exact ⟨rfl, rfl⟩
    · have q2 : decide (y.toNat < x.toNat) = false := by simp; omega
      rw [if_neg h2]
      clear h1 h2
      go_enter Try.func66, Try.ntmps66
      go_wp2_with (go_at_call 72; refine (isnan_any _ _).mono ?_; rintro e W1 ⟨rfl, rfl⟩)
      go_ret
      exact ⟨rfl, rfl⟩

theorem cmpB_drop (l m : List UInt8) (k : Nat) (h1 : k < l.length) (h2 : k < m.length) : cmpB (l.drop k) (m.drop k) = if cmp1 l[k] m[k] = 0 then cmpB (l.drop (k + 1)) (m.drop (k + 1)) else cmp1 l[k] m[k] := by
  rw [List.drop_eq_getElem_cons h1, List.drop_eq_getElem_cons h2, cmpB]

set_option maxHeartbeats 1000000 in
theorem compare_any (v1 v2 : Value) (l m : List UInt8) (w : World) (h1 : Bytes w v1 l) (h2 : Bytes w v2 m) (hlen : l.length = m.length) :
    Calls Try.prog 42 #[v1, v2] w fun e w' => e = .returned (.int .i64 (cmpB l m)) ∧ w = w' := by
  obtain ⟨a1, c1, rfl, hc1, hm1⟩ := IsSl.shape h1
  obtain ⟨a2, c2, rfl, hc2, hm2⟩ := IsSl.shape h2
  have HL := Lib.hid hlen
  have hq : decide (l.length < m.length) = false := by simp; omega
  clear hlen
  go_enter Try.func42, Try.ntmps42
  go_wp2
  go_loop [11] (fun i => ∃ k : Nat, k ≤ l.length ∧ i = .int .i64 k ∧ cmpB (l.drop k) (m.drop k) = cmpB l m) (fun i => l.length - (intOf i).toNat)
  case atStart => exact ⟨0, by omega, rfl, rfl⟩
  case round =>
    obtain ⟨k, hk, rfl, hc⟩ := hrel
    have HC := Lib.hid hc
    clear hc
    by_cases hlt : k < l.length
    · have hlt2 : k < m.length := by have := HL.out; omega
      obtain ⟨b1, o1, rfl, x1⟩ := IsSl.get h1 (k := k) (by simpa using hlt)
      obtain ⟨b2, o2, rfl, x2⟩ := IsSl.get h2 (k := k) (by simpa using hlt2)
      rw [List.getElem_map] at x1 x2
      have hd := cmpB_drop l m k hlt hlt2
      have q1 : decide (m.length ≤ k) = false := by simp; omega
      obtain ⟨x, hx⟩ : ∃ x, l[k] = x := ⟨_, rfl⟩
      obtain ⟨y, hy⟩ : ∃ y, m[k] = y := ⟨_, rfl⟩
      rw [hx] at x1 hd
      rw [hy] at x2 hd
      clear hx hy
      obtain ⟨z, hz⟩ : ∃ z, cmp1 x y = z := ⟨_, rfl⟩
      rw [hz] at hd
      have hcc := ccmp_any x y w
      rw [hz] at hcc
      clear hz
      by_cases h0 : z = 0
      · rw [if_pos h0] at hd
        have HD := Lib.hid hd
        subst h0
        clear hd
        go_wp2_with fail
        refine hcc.mono ?_
        rintro e W1 ⟨rfl, rfl⟩
        go_wp2
        go_round
        case rel => exact ⟨k + 1, by omega, by go_num, by rw [← HD.out, HC.out]⟩
        case measure => simp only [intOf]; omega
      · rw [if_neg h0] at hd
        have HD := Lib.hid hd
        have hz0 : (z != 0) = true := by simp [h0]
        clear hd h0
        go_wp2_with fail
        refine hcc.mono ?_
        rintro e W1 ⟨rfl, rfl⟩
        go_wp2
        go_ret
        exact ⟨by rw [← HC.out, HD.out]; rfl, rfl⟩
    · obtain rfl : k = l.length := by omega
      go_wp2
      go_ret
      have := HC.out
      rw [List.drop_of_length_le (Nat.le_refl _), List.drop_of_length_le (by have := HL.out; omega)] at this
      exact ⟨by rw [← this]; rfl, rfl⟩

end Go.Proofs.Ytpooakhmpfbmgaa
