/- gessolaw01.OctetBack: plain laws: what is laid is split so; bytes that are split, laid again, are the same. -/
import Derived.Test.YtpooakhmpfbmgaaOctAny
namespace Go.Proofs.Ytpooakhmpfbmgaa
open Go.RowKit

theorem layR_len2 : ∀ (xs : List Int) (ns : List Nat), ns.length = xs.length → (layR xs ns).length = sumW xs
  | [], [], _ => rfl
  | [], _ :: _, h => by simp at h
  | _ :: _, [], h => by simp at h
  | x :: xs, n :: ns, h => by
    have := layR_len2 xs ns (by simpa using h)
    simp only [layR, List.length_append, layB_len, this, sumW, List.map_cons, List.sum_cons]
theorem split_lay : ∀ (xs : List Int) (ns : List Nat), ns.length = xs.length → fitsR xs ns = true → splitR xs (layR xs ns) = ns
  | [], [], _, _ => rfl
  | [], _ :: _, h, _ => by simp at h
  | _ :: _, [], h, _ => by simp at h
  | x :: xs, n :: ns, h, hf => by
    simp only [fitsR, Bool.and_eq_true] at hf
    have ih := split_lay xs ns (by simpa using h) hf.2
    have hl : (layB x.toNat n).length = x.toNat := layB_len _ _
    rw [splitR, layR, List.take_append_of_le_length (by omega), List.take_of_length_le (by omega), List.drop_append_of_le_length (by omega), List.drop_of_length_le (by omega), List.nil_append, ih, numB_layB, Nat.mod_eq_of_lt (fitsB_lt hf.1)]
theorem lay_num : ∀ (l : List UInt8), layB l.length (numB l) = l := by
  intro l
  generalize hn : l.length = n
  induction n generalizing l with
  | zero => simpa [layB] using (List.eq_nil_of_length_eq_zero hn).symm
  | succ n ih =>
    obtain ⟨m, x, rfl⟩ : ∃ m x, l = m ++ [x] := by
      rcases List.eq_nil_or_concat l with rfl | ⟨m, x, rfl⟩
      · simp at hn
      · exact ⟨m, x, by simp⟩
    have hm : m.length = n := by simpa using hn
    have hx := x.toNat_lt
    rw [layB, numB_snoc, show (256 * numB m + x.toNat) / 256 = numB m from by omega, ih m hm, show (256 * numB m + x.toNat) % 256 = x.toNat from by omega]
    simp
theorem fits_num (l : List UInt8) : fitsB l.length (numB l) = true := by
  unfold fitsB
  rw [decide_eq_true_eq]
  exact Nat.div_eq_of_lt (numB_lt l)
theorem lay_split : ∀ (xs : List Int) (b : List UInt8), b.length = sumW xs → layR xs (splitR xs b) = b ∧ fitsR xs (splitR xs b) = true
  | [], b, h => by
    obtain rfl : b = [] := List.eq_nil_of_length_eq_zero (by simpa [sumW] using h)
    simp [layR, fitsR]
  | x :: xs, b, h => by
    have hs : sumW (x :: xs) = x.toNat + sumW xs := by simp [sumW]
    rw [hs] at h
    obtain ⟨i1, i2⟩ := lay_split xs (b.drop x.toNat) (by rw [List.length_drop]; omega)
    have ht : (b.take x.toNat).length = x.toNat := by rw [List.length_take]; omega
    have h1 := lay_num (b.take x.toNat)
    have h2 := fits_num (b.take x.toNat)
    rw [ht] at h1 h2
    constructor
    · rw [splitR, layR, h1, i1, List.take_append_drop]
    · rw [splitR, fitsR, h2, i2]; rfl
theorem numB_lt64 (l : List UInt8) (h : l.length ≤ 8) : numB l < 18446744073709551616 := Nat.lt_of_lt_of_le (numB_lt l) (pow_le8 h)
theorem splitR_lt : ∀ (xs : List Int) (b : List UInt8), allW xs = true → ∀ n ∈ splitR xs b, n < 18446744073709551616
  | [], _, _, n, hn => by simp [splitR] at hn
  | x :: xs, b, h, n, hn => by
    simp only [allW, List.all_cons, Bool.and_eq_true] at h
    rw [splitR, List.mem_cons] at hn
    rcases hn with rfl | hn
    · have := of_decide_eq_true h.1
      exact numB_lt64 _ (by rw [List.length_take]; omega)
    · exact splitR_lt xs _ h.2 n hn

theorem splitR_get : ∀ (xs : List Int) (b : List UInt8) (k : Nat) (hk : k < xs.length), (splitR xs b)[k]? = some (numB ((b.drop (sumW (xs.take k))).take xs[k].toNat))
  | [], _, k, hk => by simp at hk
  | x :: xs, b, 0, _ => by simp [splitR, sumW]
  | x :: xs, b, k + 1, hk => by
    have := splitR_get xs (b.drop x.toNat) k (by simpa using hk)
    rw [splitR, List.getElem?_cons_succ, this, List.drop_drop]
    simp [sumW]

/-- reading numbers one by one -/
theorem rdNum_ok (l : List UInt8) (k : Nat) (g1 : 1 ≤ k) (g2 : k ≤ 8) (g3 : k ≤ l.length) : rdNum (l, 0) k = ((l.drop k, 0), numB (l.take k)) := by
  have h : numNo (k : Int) l.length = 0 := by
    unfold numNo frontNo
    rw [okW_of g1 g2, if_pos rfl, if_neg (by omega), if_neg (by omega)]
  unfold rdNum
  simp only [h, if_true, Int.toNat_natCast]

end Go.Proofs.Ytpooakhmpfbmgaa
