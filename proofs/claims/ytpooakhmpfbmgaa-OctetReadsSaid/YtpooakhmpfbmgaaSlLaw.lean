/- Parts of slices of bytes: s[lo:hi], s[lo:], s[:hi]. -/
import Derived.Test.YtpooakhmpfbmgaaPlus
namespace Go.Proofs.Ytpooakhmpfbmgaa
open Go.RowKit

theorem Bytes.sliced {w : World} {a : Option Addr} {n c lo hi m : Nat} {l : List UInt8} (h : Bytes w (.slice a n c) l) (h1 : lo ≤ hi) (h2 : hi ≤ l.length) (h3 : hi ≤ m) (h4 : m ≤ c) :
    ∃ a' c', sliced a lo hi m 1 = .slice a' (hi - lo) c' ∧ Bytes w (.slice a' (hi - lo) c') ((l.drop lo).take (hi - lo)) := by
  obtain ⟨a0, c0, e, q1, q2, q3, q4⟩ := h
  cases e
  have hlen : ((l.drop lo).take (hi - lo)).length = hi - lo := by simp; omega
  refine ⟨_, _, rfl, ?_⟩
  refine ⟨_, m - lo, by rw [hlen], by rw [hlen]; omega, Nat.le_trans (Nat.sub_le _ _) (Nat.le_trans h4 q2), ?_, ?_⟩
  · intro hn
    split at hn
    · rename_i e; omega
    · cases a with
      | none => have := q3 rfl; omega
      | some x => simp at hn
  · intro j u hu
    have hj : j < hi - lo := by have := (List.getElem?_eq_some_iff.1 hu).1; simp at this; omega
    have hu' : (l.map vb)[lo + j]? = some u := by rw [← hu]; simp [List.getElem?_drop, hj]
    obtain ⟨b, o, e1, hc⟩ := q4 (lo + j) u hu'
    subst e1
    rw [if_neg (by omega)]
    refine ⟨b, o + lo, ?_, by rw [Nat.add_assoc]; exact hc⟩
    simp only [Option.map_some, Nat.mul_one]
    unfold Addr.add
    split
    · rename_i e; simp [e]
    · rfl

theorem u8_sz (w : World) : (sizeOf (Try.prog.elem 22)).run Try.prog w = .ok 1 w := by kernel_rfl

section
variable {ops : Array Oper} {Q : Exit → Act → World → Prop} {rest : List Oper} {a : Act} {w : World} {dst : Option Tmp} {p q r : Operand} {ty : TypeId} {pos : String} {af : Array Edge} {g : Option (Nat × Bool)} {ad : Option Addr} {n c : Nat} {l : List UInt8}
theorem wl_slice_l (lo : Nat) (hw : Region.wanted ⟨dst, .slice 22 p (some q) none none, ty, pos, af, g⟩ (yielded ops a.tmps) = true) (hp : a.eval p = .slice ad n c) (hq : a.eval q = .int .i64 lo) (hb : Bytes w (.slice ad n c) l) (h1 : lo ≤ l.length)
    (hk : ∀ a' c', Bytes w (.slice a' (l.length - lo) c') (l.drop lo) → wpList Try.prog ops Q rest (a.put dst (.slice a' (l.length - lo) c')) w) : wpList Try.prog ops Q (⟨dst, .slice 22 p (some q) none none, ty, pos, af, g⟩ :: rest) a w := by
  have hb0 := hb
  obtain ⟨a0, c0, e, q1, _⟩ := hb0
  cases e
  obtain ⟨a', c', e1, hb'⟩ := Bytes.sliced hb h1 (Nat.le_refl _) q1 (Nat.le_refl _)
  rw [List.take_of_length_le (by simp)] at hb'
  refine wl_of hw ?_ (hk a' c' hb')
  have h := run_slice_l (P := Try.prog) (w := w) 22 ad l.length c (by kernel_rfl) .i64 (lo : Int) (by omega) (by omega)
  rw [u8_sz] at h
  simp only [Int.toNat_natCast, Result.andThen_ok, e1] at h
  simp only [execOp, Option.map_some, Option.map_none, hp, hq, Sem.run_bind, run_sliceAt_slice (P := Try.prog) (w := w) 22 _ _ _ _ (by kernel_rfl), h, Result.andThen_ok, Sem.run_pure]
theorem wl_slice_h (hi : Nat) (hw : Region.wanted ⟨dst, .slice 22 p none (some q) none, ty, pos, af, g⟩ (yielded ops a.tmps) = true) (hp : a.eval p = .slice ad n c) (hq : a.eval q = .int .i64 hi) (hb : Bytes w (.slice ad n c) l) (h1 : hi ≤ l.length)
    (hk : ∀ a' c', Bytes w (.slice a' hi c') (l.take hi) → wpList Try.prog ops Q rest (a.put dst (.slice a' hi c')) w) : wpList Try.prog ops Q (⟨dst, .slice 22 p none (some q) none, ty, pos, af, g⟩ :: rest) a w := by
  have hb0 := hb
  obtain ⟨a0, c0, e, q1, _⟩ := hb0
  cases e
  obtain ⟨a', c', e1, hb'⟩ := Bytes.sliced (lo := 0) hb (Nat.zero_le _) h1 (Nat.le_trans h1 q1) (Nat.le_refl _)
  rw [Nat.sub_zero, List.drop_zero] at hb'
  rw [Nat.sub_zero] at e1
  refine wl_of hw ?_ (hk a' c' hb')
  have h := run_slice_h (P := Try.prog) (w := w) 22 ad l.length c (by kernel_rfl) .i64 (hi : Int) (by omega) (by omega)
  rw [u8_sz] at h
  simp only [Int.toNat_natCast, Result.andThen_ok, e1] at h
  simp only [execOp, Option.map_some, Option.map_none, hp, hq, Sem.run_bind, run_sliceAt_slice (P := Try.prog) (w := w) 22 _ _ _ _ (by kernel_rfl), h, Result.andThen_ok, Sem.run_pure]
theorem wl_slice_lh (lo hi : Nat) (hw : Region.wanted ⟨dst, .slice 22 p (some q) (some r) none, ty, pos, af, g⟩ (yielded ops a.tmps) = true) (hp : a.eval p = .slice ad n c) (hq : a.eval q = .int .i64 lo) (hr : a.eval r = .int .i64 hi) (hb : Bytes w (.slice ad n c) l) (h0 : lo ≤ hi) (h1 : hi ≤ l.length)
    (hk : ∀ a' c', Bytes w (.slice a' (hi - lo) c') ((l.drop lo).take (hi - lo)) → wpList Try.prog ops Q rest (a.put dst (.slice a' (hi - lo) c')) w) : wpList Try.prog ops Q (⟨dst, .slice 22 p (some q) (some r) none, ty, pos, af, g⟩ :: rest) a w := by
  have hb0 := hb
  obtain ⟨a0, c0, e, q1, _⟩ := hb0
  cases e
  obtain ⟨a', c', e1, hb'⟩ := Bytes.sliced hb h0 h1 (Nat.le_trans h1 q1) (Nat.le_refl _)
  refine wl_of hw ?_ (hk a' c' hb')
  have h := run_slice_lh (P := Try.prog) (w := w) 22 ad l.length c (by kernel_rfl) .i64 .i64 (lo : Int) (hi : Int) (by omega) (by omega) (by omega)
  rw [u8_sz] at h
  simp only [Int.toNat_natCast, Result.andThen_ok, e1] at h
  simp only [execOp, Option.map_some, Option.map_none, hp, hq, hr, Sem.run_bind, run_sliceAt_slice (P := Try.prog) (w := w) 22 _ _ _ _ (by kernel_rfl), h, Result.andThen_ok, Sem.run_pure]
end

end Go.Proofs.Ytpooakhmpfbmgaa
