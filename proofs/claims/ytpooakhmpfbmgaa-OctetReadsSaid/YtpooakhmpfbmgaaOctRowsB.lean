/- Rows of rows of bytes; parts, read from less than all of them. -/
import Derived.Test.YtpooakhmpfbmgaaBackLaw2
namespace Go.Proofs.Ytpooakhmpfbmgaa
open Go.RowKit

/-- a slice of slices of bytes -/
structure RowsB (w : World) (v : Value) (Ls : List (List UInt8)) (vs : List Value) : Prop where
  sl : IsSl w v Ls.length vs
  len : vs.length = Ls.length
  el : ∀ k (h : k < Ls.length) (h' : k < vs.length), Bytes w vs[k] Ls[k]
theorem RowsB.below {w w' : World} {v : Value} {Ls : List (List UInt8)} {vs : List Value} (h : RowsB w v Ls vs) (hb : Below w.heap.size w w') : RowsB w' v Ls vs :=
  ⟨IsSl.below h.sl hb, h.len, fun k h1 h2 => (h.el k h1 h2).below hb⟩
theorem RowsB.get {w : World} {a : Option Addr} {n c k : Nat} {Ls : List (List UInt8)} {vs : List Value} (h : RowsB w (.slice a n c) Ls vs) (hk : k < Ls.length) :
    ∃ b o ea ec, a = some ⟨b, o, none⟩ ∧ w.cell? ⟨b, o + k, none⟩ = some (.slice ea Ls[k].length ec) ∧ Bytes w (.slice ea Ls[k].length ec) Ls[k] := by
  have hk' : k < vs.length := by rw [h.len]; exact hk
  obtain ⟨b, o, e, hc⟩ := IsSl.get h.sl hk'
  have hb := h.el k hk hk'
  obtain ⟨ea, ec, he, _⟩ := IsSl.shape hb
  rw [he] at hc hb
  exact ⟨b, o, ea, ec, e, hc, hb⟩

def partsB (ps : List (List UInt8)) : List UInt8 := ps.flatMap partB
theorem partsB_snoc (ps : List (List UInt8)) (p : List UInt8) : partsB (ps ++ [p]) = partsB ps ++ partB p := by simp [partsB]
theorem partB_len (p : List UInt8) : (partB p).length = 2 + p.length := by simp [partB, layB_len]
theorem partsB_len (ps : List (List UInt8)) (h : ∀ p ∈ ps, p.length ≤ 40) : (partsB ps).length ≤ 42 * ps.length := by
  induction ps with
  | nil => simp [partsB]
  | cons p ps ih =>
    have h1 := ih (fun q hq => h q (by simp [hq]))
    have h2 := h p (by simp)
    have e : partsB (p :: ps) = partB p ++ partsB ps := by simp [partsB]
    rw [e, List.length_append, partB_len]
    simp only [List.length_cons]
    omega
theorem num_partB (p rest : List UInt8) (h : p.length ≤ 40) (m : Nat) (hm : 2 ≤ m) : numB (((partB p ++ rest).take m).take 2) = p.length := by
  have e : ((partB p ++ rest).take m).take 2 = layB 2 p.length := by
    rw [List.take_take, Nat.min_eq_left hm, partB, List.append_assoc, List.take_append_of_le_length (by rw [layB_len]; omega), List.take_of_length_le (by rw [layB_len]; omega)]
  rw [e, numB_layB]
  exact Nat.mod_eq_of_lt (by omega)
/-- a part that is there is read -/
theorem rdPart_yes (p rest : List UInt8) (h : p.length ≤ 40) (m : Nat) (hm : 2 + p.length ≤ m) : rdPart ((partB p ++ rest).take m, 0) = ((rest.take (m - (2 + p.length)), 0), p) := by
  have hl : ((partB p ++ rest).take m).length ≥ 2 + p.length := by rw [List.length_take, List.length_append, partB_len]; omega
  have hn := num_partB p rest h m (by omega)
  unfold rdPart
  simp only [if_true]
  rw [hn, if_neg (by omega), if_neg (by omega)]
  have e1 : ((partB p ++ rest).take m).drop (2 + p.length) = rest.take (m - (2 + p.length)) := by
    rw [List.drop_take, List.drop_append_of_le_length (by rw [partB_len]; omega), List.drop_of_length_le (by rw [partB_len]; omega), List.nil_append]
  have e2 : (((partB p ++ rest).take m).drop 2).take p.length = p := by
    rw [List.drop_take, List.take_take, Nat.min_eq_left (by omega), partB, List.append_assoc, List.drop_append_of_le_length (by rw [layB_len]; omega), List.drop_of_length_le (by rw [layB_len]; omega), List.nil_append, List.take_append_of_le_length (by omega), List.take_of_length_le (by omega)]
  rw [e1, e2]
theorem rdPart_all (p rest : List UInt8) (h : p.length ≤ 40) : rdPart (partB p ++ rest, 0) = ((rest, 0), p) := by
  have := rdPart_yes p rest h (2 + p.length + rest.length) (by omega)
  rw [List.take_of_length_le (by rw [List.length_append, partB_len]; omega), List.take_of_length_le (by omega)] at this
  exact this
/-- a part of which bytes lack is short -/
theorem rdPart_short (p rest : List UInt8) (h : p.length ≤ 40) (m : Nat) (hm : m < 2 + p.length) : rdPart ((partB p ++ rest).take m, 0) = (((partB p ++ rest).take m, 110), []) := by
  have hl : ((partB p ++ rest).take m).length = m := by rw [List.length_take, List.length_append, partB_len]; omega
  unfold rdPart
  simp only [if_true]
  by_cases h2 : m < 2
  · rw [if_pos (by omega)]
  · rw [if_neg (by omega), num_partB p rest h m (by omega), if_pos (by omega)]
theorem rdPart_bad (l : List UInt8) : rdPart (l, 110) = ((l, 110), []) := by
  unfold rdPart
  simp

/-- what is known behind k parts, read from the first m bytes of all: whole ones so far -/
def PtInv (ps : List (List UInt8)) (k : Nat) (s : RSt) (whole : Nat) : Prop :=
  (s.2 = 0 ∧ whole = k ∧ ∃ m, m < (partsB (ps.drop k)).length ∧ s.1 = (partsB (ps.drop k)).take m) ∨ (s.2 = 110 ∧ whole < k)
theorem PtInv.step {ps : List (List UInt8)} {k : Nat} {s : RSt} {whole : Nat} (h : PtInv ps k s whole) (hk : k < ps.length) (h40 : ∀ p ∈ ps, p.length ≤ 40) : PtInv ps (k + 1) (rdPart s).1 (if (rdPart s).1.2 = 0 then whole + 1 else whole) := by
  obtain ⟨l, f⟩ := s
  have hp := h40 ps[k] (List.getElem_mem hk)
  have e : partsB (ps.drop k) = partB ps[k] ++ partsB (ps.drop (k + 1)) := by
    have e0 := List.drop_eq_getElem_cons hk
    unfold partsB
    rw [e0, List.flatMap_cons]
  rcases h with ⟨h1, rfl, m, hm, h2⟩ | ⟨h1, h2⟩
  · simp only at h1 h2
    subst h1 h2
    rw [e, List.length_append, partB_len] at hm
    by_cases hmm : 2 + ps[whole].length ≤ m
    · rw [e, rdPart_yes _ _ hp m hmm]
      refine .inl ⟨rfl, by simp, m - (2 + ps[whole].length), by omega, rfl⟩
    · rw [e, rdPart_short _ _ hp m (by omega)]
      exact .inr ⟨rfl, by simp⟩
  · simp only at h1
    subst h1
    rw [rdPart_bad]
    exact .inr ⟨rfl, by simp; omega⟩
theorem PtInv.last {ps : List (List UInt8)} {s : RSt} {whole : Nat} (h : PtInv ps ps.length s whole) : s.2 = 110 ∧ whole < ps.length := by
  rcases h with ⟨_, _, m, hm, _⟩ | h
  · rw [List.drop_of_length_le (Nat.le_refl _)] at hm
    simp [partsB] at hm
  · exact h

theorem rowsB_of_trod {H : Type} {enc : TypeId × Value → H} {w : World} {base : Nat} {spare : Nat → Bool} {held : Bool} {fuel : Nat} {a : Option Addr} {n c : Nat} {x : DataW H × List MemPlace} (h : DataW.trod enc Try.prog w base spare held fuel 41 [.slice a n c] = some x) :
    ∃ l : List (List UInt8), l.length = n ∧ ∃ vs, RowsB w (.slice a n c) l vs := by
  obtain ⟨l, hl, hs⟩ := rows_of_trod (α := { y : List UInt8 × Value // Bytes w y.2 y.1 }) (fun y => [y.1.2]) 1 (by decide) (fun _ => rfl) (by kernel_rfl) Try.underlying41 (fun fuel cs x h => by
    obtain ⟨ea, en, ec, rfl⟩ : ∃ ea en ec, cs = [.slice ea en ec] := by
      rcases DataW.trod_slice Try.underlying22 h with ⟨e, _⟩ | ⟨ea, len, cap, _, _, _, _, e, _⟩
      · exact ⟨_, _, _, e⟩
      · exact ⟨_, _, _, e⟩
    obtain ⟨l, hl, hb⟩ := bytes_of_trod h
    exact ⟨⟨(l, _), hb⟩, rfl⟩) h
  rw [flatMap_one] at hs
  refine ⟨l.map (·.1.1), by simpa using hl, l.map (·.1.2), ?_, by simp, fun k h1 h2 => by simpa using (l[k]'(by simpa using h1)).2⟩
  rw [List.length_map, hl]
  exact hs

end Go.Proofs.Ytpooakhmpfbmgaa
